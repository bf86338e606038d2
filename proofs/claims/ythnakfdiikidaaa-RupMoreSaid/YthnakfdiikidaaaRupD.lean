/- What follows from clauses, on lists. -/
import Derived.Test.YthnakfdiikidaaaUnY
namespace Go.Proofs.Ythnakfdiikidaaa
open Go.Lib

def negsM (c : List Int) : List Int := (c.filter fun x => decide (0 ≤ x)).map negM
def followsM (cs : List (List Int)) (c : List Int) : Bool := (runM cs (negsM c)).2 != -1
/-- The first step that does not follow from what stands ahead of it; -1 if there is none. -/
def rowM : List (List Int) → List (List Int) → Int → Int
  | _, [], _ => -1
  | l, c :: r, i => if followsM l c = true then rowM (l ++ [c]) r (i + 1) else i
theorem mem_negs {c : List Int} {y : Int} : y ∈ negsM c ↔ ∃ x ∈ c, 0 ≤ x ∧ negM x = y := by
  unfold negsM
  rw [List.mem_map]
  constructor
  · rintro ⟨x, hx, e⟩
    obtain ⟨h1, h2⟩ := List.mem_filter.1 hx
    exact ⟨x, h1, by simpa using h2, e⟩
  · rintro ⟨x, hx, h0, e⟩
    exact ⟨x, List.mem_filter.2 ⟨hx, by simpa using h0⟩, e⟩
theorem row_cons (l : List (List Int)) (c : List Int) (r : List (List Int)) (i : Int) : rowM l (c :: r) i = if followsM l c = true then rowM (l ++ [c]) r (i + 1) else i := by conv => lhs; unfold rowM
theorem row_index : ∀ (l s : List (List Int)) (i : Int), 0 ≤ i → rowM l s i = -1 ∨ (i ≤ rowM l s i ∧ rowM l s i < i + s.length)
  | _, [], _, _ => .inl rfl
  | l, c :: r, i, hi => by
    unfold rowM
    split
    · rcases row_index (l ++ [c]) r (i + 1) (by omega) with h | h
      · exact .inl h
      · rw [List.length_cons]; right; omega
    · rw [List.length_cons]; right; omega
theorem row_shift : ∀ (l s : List (List Int)) (i : Int), 0 ≤ i → rowM l s i = if rowM l s 0 = -1 then -1 else i + rowM l s 0
  | _, [], _, _ => rfl
  | l, c :: r, i, hi => by
    unfold rowM
    by_cases h : followsM l c = true
    · rw [if_pos h, if_pos h, row_shift (l ++ [c]) r (i + 1) (by omega), row_shift (l ++ [c]) r (0 + 1) (by omega)]
      by_cases h2 : rowM (l ++ [c]) r 0 = -1
      · simp [h2]
      · have h3 := (row_index (l ++ [c]) r 0 (by omega)).resolve_left h2
        rw [if_neg h2, if_neg h2, if_neg (by omega)]
        omega
    · rw [if_neg h, if_neg h, if_neg (by omega)]
      omega
/-- A row in two parts. -/
theorem row_parts : ∀ (l s t : List (List Int)) (i : Int), 0 ≤ i → rowM l (s ++ t) i = if rowM l s i = -1 then rowM (l ++ s) t (i + s.length) else rowM l s i
  | l, [], t, i, _ => by
    have : rowM l [] i = -1 := rfl
    rw [List.nil_append, if_pos this, List.append_nil]
    simp
  | l, c :: r, t, i, hi => by
    rw [List.cons_append, row_cons, row_cons]
    by_cases h : followsM l c = true
    · rw [if_pos h, if_pos h, row_parts (l ++ [c]) r t (i + 1) (by omega)]
      rw [List.append_assoc, List.singleton_append, List.length_cons]
      have : i + 1 + (r.length : Int) = i + ((r.length + 1 : Nat) : Int) := by omega
      rw [this]
    · rw [if_neg h, if_neg h, if_neg (by omega)]
/-- Assigned all through, for literals below 120. -/
def Two (L : List Int) (k : Nat) : Prop := L.length = 60 ∧ ∀ i, i < k → L[i]? = some 1 ∨ L[i]? = some 2
theorem two_neg {L : List Int} (h : Two L 60) {x : Int} (h0 : 0 ≤ x) (h1 : x < 120) (hv : valM L x ≠ 1) : valM L (negM x) = 1 := by
  have hn : 0 ≤ negM x := by unfold negM; split <;> omega
  unfold valM at hv ⊢
  rw [if_neg (by omega)] at hv
  rw [if_neg (by omega), negM_half]
  have hx : negM x % 2 = if x % 2 = 0 then 1 else 0 := by unfold negM; split <;> omega
  rcases h.2 (x / 2).toNat (by omega) with e | e
  · rw [e] at hv ⊢
    by_cases hp : x % 2 = 0 <;> simp [hp, hx] at hv ⊢
  · rw [e] at hv ⊢
    by_cases hp : x % 2 = 0 <;> simp [hp, hx] at hv ⊢
theorem follows_sound {cs : List (List Int)} {c L : List Int} (hL : Two L 60) (hc : ∀ x ∈ c, 0 ≤ x ∧ x < 120) (hh : holdsM L cs = true) (hf : followsM cs c = true) : ∃ x ∈ c, valM L x = 1 := by
  refine Classical.byContradiction fun hno => ?_
  have hg : ∀ y ∈ negsM c, 0 ≤ y → valM L y = 1 := by
    intro y hy _
    obtain ⟨x, hx, _, e⟩ := mem_negs.1 hy
    rw [← e]
    exact two_neg hL (hc x hx).1 (hc x hx).2 fun hv => hno ⟨x, hx, hv⟩
  have := (run_sound (cs := cs) (given := negsM c) (vals := L) (by rw [hL.1]; decide) hg hh).2
  unfold followsM at hf
  rw [this] at hf
  simp at hf
theorem holds_snoc {L : List Int} {cs : List (List Int)} {c : List Int} : holdsM L (cs ++ [c]) = true ↔ holdsM L cs = true ∧ ∃ x ∈ c, valM L x = 1 := by
  unfold holdsM
  rw [List.all_append, Bool.and_eq_true]
  refine and_congr Iff.rfl ?_
  rw [← st_true L c 0 (-1)]
  simp
/-- The steps that follow hold where the clauses do. -/
theorem row_sound {L : List Int} (hL : Two L 60) : ∀ (cs s : List (List Int)) (i : Int) (n : Nat), 0 ≤ i → (∀ c ∈ s, ∀ x ∈ c, 0 ≤ x ∧ x < 120) → holdsM L cs = true → (rowM cs s i = -1 → n = s.length) → (rowM cs s i ≠ -1 → i + n = rowM cs s i) → holdsM L (s.take n) = true
  | _, [], _, n, _, _, _, _, _ => by rw [List.take_nil]; rfl
  | cs, c :: r, i, n, hi, hr, hh, h1, h2 => by
    unfold rowM at h1 h2
    by_cases hf : followsM cs c = true
    · rw [if_pos hf] at h1 h2
      have hc := follows_sound hL (hr c List.mem_cons_self) hh hf
      cases n with
      | zero => rfl
      | succ m =>
        rw [List.take_succ_cons]
        have hrest := row_sound hL (cs ++ [c]) r (i + 1) m (by omega) (fun d hd => hr d (List.mem_cons_of_mem _ hd)) (holds_snoc.2 ⟨hh, hc⟩) (fun e => by have := h1 e; rw [List.length_cons] at this; omega) (fun e => by have := h2 e; omega)
        unfold holdsM at hrest ⊢
        rw [List.all_cons, Bool.and_eq_true]
        exact ⟨by have := (st_true L c 0 (-1)).2 hc; simp [this], hrest⟩
    · rw [if_neg hf] at h1 h2
      have : n = 0 := by have := h2 (by omega); omega
      subst this
      rfl
/-- More clauses: no less follows. -/
theorem follows_more {cs cs' : List (List Int)} {c : List Int} (h : ∀ d ∈ cs, d ∈ cs') (hf : followsM cs c = true) : followsM cs' c = true := by
  unfold followsM at hf ⊢
  cases hk : (runM cs' (negsM c)).2 != -1 with
  | true => rfl
  | false =>
    have hk' : (runM cs' (negsM c)).2 = -1 := by simpa using hk
    have := (run_sub (cs := cs') (cs' := cs) (given := negsM c) (given' := negsM c) h (fun x hx => hx) hk').1
    rw [this] at hf
    simp at hf
end Go.Proofs.Ythnakfdiikidaaa

/- negs, Follows. -/
namespace Go.Proofs.Ythnakfdiikidaaa
open Go.RowKit Go.Lib

theorem negs_snoc (c : List Int) {k : Nat} (h : k < c.length) : negsM (c.take (k + 1)) = negsM (c.take k) ++ (if 0 ≤ c[k] then [negM c[k]] else []) := by
  unfold negsM
  rw [List.take_succ_eq_append_getElem h, List.filter_append, List.map_append]
  congr 1
  by_cases h0 : 0 ≤ c[k] <;> simp [h0]
theorem negs_len (c : List Int) : (negsM c).length ≤ c.length := by
  unfold negsM
  rw [List.length_map]
  exact List.length_filter_le _ _
theorem i64_neg {x : Int} (h0 : 0 ≤ x) (h : x ≤ 9223372036854775807) : bits .xor .i64 x 1 = negM x := i64_xor_one x h0 (by omega)

set_option maxHeartbeats 1000000 in
theorem negs_ok {w : World} {A : Option Addr} {c : List Int} (cap : Nat) (h : Row .i64 w A c) (hm : ∀ x ∈ c, x ≤ 9223372036854775807) :
    Calls Try.prog 26 #[.slice A c.length cap] w fun e w' => ∃ v, e = .returned v ∧ w'.ownsRow w.heap.size 3 1 v (negsM c).length ((negsM c).map (Value.int .i64)) ∧ Below w.heap.size w w' := by
  obtain ⟨i0, hi, hz0, hz1, hz2⟩ := info_parts int_info
  have hlen := h.len
  have H := Lib.hid h
  have Hm := Lib.hid hm
  clear h hm
  go_enter Try.func26, Try.ntmps26
  go_wp2
  go_loopw [7, 2] (fun vi vo wr => ∃ i : Nat, i ≤ c.length ∧ vi = .int .i64 i ∧ wr.ownsRow w.heap.size 3 1 vo (negsM (c.take i)).length ((negsM (c.take i)).map (Value.int .i64)) ∧ Below w.heap.size w wr) (fun vi _ _ => (c.length - intOf vi).toNat)
  case atStart => exact ⟨0, Nat.zero_le _, rfl, World.ownsRow_nil _ _ _ _, Below.refl _ _⟩
  case round =>
    obtain ⟨i, hi2, rfl, hown, hbel⟩ := hrel
    have Hown := Lib.hid hown
    have Hbel := Lib.hid hbel
    have hnl := negs_len (c.take i)
    rw [List.length_take] at hnl
    by_cases hlt : i < c.length
    · have d1 : decide ((i : Int) < c.length) = true := by simp; omega
      obtain ⟨b, off, hA, hb, hcell⟩ := (H.out.below hbel).at_.resolve_left (by omega)
      subst hA
      have y0 := hcell i hlt
      have hx := Hm.out c[i] (List.getElem_mem hlt)
      have Hsn := Lib.hid (negs_snoc c hlt)
      clear hcell hown hbel
      generalize c[i] = x at *
      by_cases h0 : 0 ≤ x
      · have d2 : decide ((0 : Int) ≤ x) = true := decide_eq_true h0
        have hn := i64_neg h0 hx
        have Hs2 := Lib.hid (show negsM (c.take (i + 1)) = negsM (c.take i) ++ [negM x] by rw [Hsn.out, if_pos h0])
        generalize negsM (c.take i) = fs at *
        have X1 := Lib.hid (show (fs.length + 1) * 8 ≤ 140737488355328 by omega)
        clear h0 hx hnl
        go_wp2_with (at_builtin; refine list_push _ rfl (.tmp 13) (.tmp 16) 28 rfl w.heap.size 3 i0 (.int .i64 0) 1 8 Try.underlying28 hi hz0 hz1 hz2 rfl (by decide) _ fs.length (fs.map (Value.int .i64)) rfl (Hown.out.alloc _) wr.heap.size #[.int .i64 (negM x)] rfl (Blk.new wr _ _) rfl (by intro u hu; rw [List.mem_singleton.1 hu]; rfl) X1.out (by decide) Hbel.out.size ?_; intro ga ca w3 ho3 hg3 _ _; have HO3 := Lib.hid ho3; have HB3 := Lib.hid (Below.grown (Hbel.out.alloc Hbel.out.size _) hg3 (Nat.le_trans Hbel.out.size (by simp)) (own_base_le Hown.out)); clear ho3 hg3)
        go_roundw
        case rel => exact ⟨i + 1, by omega, by go_num, by rw [Hs2.out, List.length_append, List.map_append]; exact HO3.out, HB3.out⟩
        case measure => simp only [intOf]; omega
      · have d2 : decide ((0 : Int) ≤ x) = false := decide_eq_false h0
        have Hs2 := Lib.hid (show negsM (c.take (i + 1)) = negsM (c.take i) by rw [Hsn.out, if_neg h0, List.append_nil])
        clear h0 hx hnl
        go_wp2
        go_roundw
        case rel => exact ⟨i + 1, by omega, by go_num, by rw [Hs2.out]; exact Hown.out, Hbel.out⟩
        case measure => simp only [intOf]; omega
    · obtain rfl : i = c.length := by omega
      have d1 : decide ((c.length : Int) < c.length) = false := by simp
      rw [List.take_length] at hown
      have HO := Lib.hid hown
      clear hown hbel hnl
      go_wp2
      go_ret
      exact ⟨_, rfl, HO.out, Hbel.out⟩

theorem negs_max {c : List Int} (hm : ∀ x ∈ c, x ≤ 9223372036854775807) : ∀ x ∈ negsM c, x ≤ 9223372036854775807 := by
  intro y hy
  obtain ⟨x, hx, h0, rfl⟩ := mem_negs.1 hy
  have := hm x hx
  unfold negM
  split <;> omega

theorem follows_ok {w : World} {A : Option Addr} {rows : List (Option Addr × Nat × List Int)} {CA : Option Addr} {c : List Int} (cap capc : Nat) (h : Grid w A rows) (k : Row .i64 w CA c) (hm : ∀ x ∈ c, x ≤ 9223372036854775807) :
    Calls Try.prog 13 #[.slice A rows.length cap, .slice CA c.length capc] w fun e w' => e = .returned (.bool (followsM (rowsOf rows) c)) ∧ Below w.heap.size w w' := by
  have K1 := negs_ok capc k hm
  have hcl := k.len
  have hnl := negs_len c
  have H := Lib.hid h
  have K2 := fun W NA nc (hb : Below w.heap.size w W) (hr : Row .i64 W NA (negsM c)) => closes_ok cap nc (h.below hb) hr (negs_max hm)
  have hq : ((runM (rowsOf rows) (negsM c)).2 != -1) = followsM (rowsOf rows) c := rfl
  rw [hq] at K2
  generalize followsM (rowsOf rows) c = q at K2
  clear hq h k hm
  go_enter Try.func13, Try.ntmps13
  go_wp2_with (first
    | (go_at_call 26; (with_reducible refine K1.mono ?_); rintro e w1 ⟨v, rfl, ho, hb⟩; obtain ⟨NA, nc, rfl, hr, _⟩ := own_row ho rfl (by omega); have HR := Lib.hid hr; have HB := Lib.hid hb; clear ho hr hb)
    | (go_at_call 25; (with_reducible refine (K2 _ NA nc HB.out HR.out).mono ?_); rintro e w2 ⟨rfl, hb2⟩; have HB2 := Lib.hid (below_then HB.out (Nat.le_refl _) hb2); clear hb2))
  go_ret
  exact ⟨rfl, HB2.out⟩
end Go.Proofs.Ythnakfdiikidaaa

/- The reference's Follows. -/
namespace Go.Proofs.Ythnakfdiikidaaa
open Go.RowKit Go.Lib

set_option maxHeartbeats 1000000 in
theorem follows17_ok {w : World} {GA : Option Addr} {rows : List (Option Addr × Nat × List Int)} {A : Option Addr} {c : List Int} (capg cap : Nat) (hg : Grid w GA rows) (hr : rows.length ≤ 1000) (he : ∀ r ∈ rows, r.2.2.length ≤ 1000) (hmr : ∀ r ∈ rows, ∀ x ∈ r.2.2, x ≤ 9223372036854775807) (h : Row .i64 w A c) (hm : ∀ x ∈ c, x ≤ 9223372036854775807) :
    Calls Try.prog 14 #[.slice GA rows.length capg, .slice A c.length cap] w fun e w' => e = .returned (.bool (followsM (rowsOf rows) c)) ∧ Below w.heap.size w w' := by
  have K2 := fun W NA nc (hb : Below w.heap.size w W) (hrw : Row .i64 W NA (negsM c)) => closes16_ok capg nc (hg.below hb) hr he hmr hrw (negs_max hm)
  have hq : ((runM (rowsOf rows) (negsM c)).2 != -1) = followsM (rowsOf rows) c := rfl
  rw [hq] at K2
  generalize followsM (rowsOf rows) c = q at K2
  clear hq hg he hmr hr
  obtain ⟨i0, hi, hz0, hz1, hz2⟩ := info_parts int_info
  have hlen := h.len
  have H := Lib.hid h
  have Hm := Lib.hid hm
  clear h hm
  go_enter Try.func14, Try.ntmps14
  go_wp2
  go_loopw [6, 5] (fun vi vo wr => ∃ i : Nat, i ≤ c.length ∧ vi = .int .i64 i ∧ wr.ownsRow w.heap.size 3 1 vo (negsM (c.take i)).length ((negsM (c.take i)).map (Value.int .i64)) ∧ Below w.heap.size w wr) (fun vi _ _ => (c.length - intOf vi).toNat)
  case atStart => exact ⟨0, Nat.zero_le _, rfl, World.ownsRow_nil _ _ _ _, Below.refl _ _⟩
  case round =>
    obtain ⟨i, hi2, rfl, hown, hbel⟩ := hrel
    have Hown := Lib.hid hown
    have Hbel := Lib.hid hbel
    have hnl := negs_len (c.take i)
    rw [List.length_take] at hnl
    by_cases hlt : i < c.length
    · have d1 : decide ((i : Int) < c.length) = true := by simp; omega
      obtain ⟨b, off, hA, hb, hcell⟩ := (H.out.below hbel).at_.resolve_left (by omega)
      subst hA
      have y0 := hcell i hlt
      have t1 : (0 : Int) ≤ (i : Int) := by omega
      have t2 : (i : Int) < (c.length : Int) := by omega
      have hx := Hm.out c[i] (List.getElem_mem hlt)
      have Hsn := Lib.hid (negs_snoc c hlt)
      clear hcell hown hbel
      generalize c[i] = x at *
      by_cases h0 : 0 ≤ x
      · have d2 : decide ((0 : Int) ≤ x) = true := decide_eq_true h0
        have hn := i64_neg h0 hx
        have Hs2 := Lib.hid (show negsM (c.take (i + 1)) = negsM (c.take i) ++ [negM x] by rw [Hsn.out, if_pos h0])
        generalize negsM (c.take i) = fs at *
        have X1 := Lib.hid (show (fs.length + 1) * 8 ≤ 140737488355328 by omega)
        clear h0 hx hnl
        go_wp2_with (at_builtin; refine list_push _ rfl (.tmp 18) (.tmp 24) 28 rfl w.heap.size 3 i0 (.int .i64 0) 1 8 Try.underlying28 hi hz0 hz1 hz2 rfl (by decide) _ fs.length (fs.map (Value.int .i64)) rfl (Hown.out.alloc _) wr.heap.size #[.int .i64 (negM x)] rfl (Blk.new wr _ _) rfl (by intro u hu; rw [List.mem_singleton.1 hu]; rfl) X1.out (by decide) Hbel.out.size ?_; intro ga ca w3 ho3 hg3 _ _; have HO3 := Lib.hid ho3; have HB3 := Lib.hid (Below.grown (Hbel.out.alloc Hbel.out.size _) hg3 (Nat.le_trans Hbel.out.size (by simp)) (own_base_le Hown.out)); clear ho3 hg3)
        go_roundw
        case rel => exact ⟨i + 1, by omega, by go_num, by rw [Hs2.out, List.length_append, List.map_append]; exact HO3.out, HB3.out⟩
        case measure => simp only [intOf]; omega
      · have d2 : decide ((0 : Int) ≤ x) = false := decide_eq_false h0
        have Hs2 := Lib.hid (show negsM (c.take (i + 1)) = negsM (c.take i) by rw [Hsn.out, if_neg h0, List.append_nil])
        clear h0 hx hnl
        go_wp2
        go_roundw
        case rel => exact ⟨i + 1, by omega, by go_num, by rw [Hs2.out]; exact Hown.out, Hbel.out⟩
        case measure => simp only [intOf]; omega
    · obtain rfl : i = c.length := by omega
      have d1 : decide ((c.length : Int) < c.length) = false := by simp
      rw [List.take_length] at hown
      have hnl2 := negs_len c
      obtain ⟨NA, nc, rfl, hrw, _⟩ := own_row hown rfl (by omega)
      have K3 := K2 _ NA nc Hbel.out hrw
      clear hown hbel hnl hnl2 hrw K2
      go_wp2_with (go_at_call 20; (with_reducible refine K3.mono ?_); rintro e w2 ⟨rfl, hb2⟩; have HB2 := Lib.hid (below_then Hbel.out (Nat.le_refl _) hb2); clear hb2)
      go_ret
      exact ⟨rfl, HB2.out⟩

end Go.Proofs.Ythnakfdiikidaaa

/- The law's negs, full. -/
namespace Go.Proofs.Ythnakfdiikidaaa
open Go.RowKit Go.Lib

set_option maxHeartbeats 1000000 in
theorem negs17_ok {w : World} {A : Option Addr} {c : List Int} (cap : Nat) (h : Row .i64 w A c) (hm : ∀ x ∈ c, x ≤ 9223372036854775807) :
    Calls Try.prog 21 #[.slice A c.length cap] w fun e w' => ∃ v, e = .returned v ∧ w'.ownsRow w.heap.size 3 1 v (negsM c).length ((negsM c).map (Value.int .i64)) ∧ Below w.heap.size w w' := by
  obtain ⟨i0, hi, hz0, hz1, hz2⟩ := info_parts int_info
  have hlen := h.len
  have H := Lib.hid h
  have Hm := Lib.hid hm
  clear h hm
  go_enter Try.func21, Try.ntmps21
  go_wp2
  go_loopw [8, 3] (fun vi vo wr => ∃ i : Nat, i ≤ c.length ∧ vi = .int .i64 i ∧ wr.ownsRow w.heap.size 3 1 vo (negsM (c.take i)).length ((negsM (c.take i)).map (Value.int .i64)) ∧ Below w.heap.size w wr) (fun vi _ _ => (c.length - intOf vi).toNat)
  case atStart => exact ⟨0, Nat.zero_le _, rfl, World.ownsRow_nil _ _ _ _, Below.refl _ _⟩
  case round =>
    obtain ⟨i, hi2, rfl, hown, hbel⟩ := hrel
    have Hown := Lib.hid hown
    have Hbel := Lib.hid hbel
    have hnl := negs_len (c.take i)
    rw [List.length_take] at hnl
    by_cases hlt : i < c.length
    · have d1 : decide ((i : Int) < c.length) = true := by simp; omega
      obtain ⟨b, off, hA, hb, hcell⟩ := (H.out.below hbel).at_.resolve_left (by omega)
      subst hA
      have y0 := hcell i hlt
      have hx := Hm.out c[i] (List.getElem_mem hlt)
      have Hsn := Lib.hid (negs_snoc c hlt)
      clear hcell hown hbel
      generalize c[i] = x at *
      by_cases h0 : 0 ≤ x
      · have d2 : decide ((0 : Int) ≤ x) = true := decide_eq_true h0
        have hn := i64_neg h0 hx
        have Hs2 := Lib.hid (show negsM (c.take (i + 1)) = negsM (c.take i) ++ [negM x] by rw [Hsn.out, if_pos h0])
        generalize negsM (c.take i) = fs at *
        have X1 := Lib.hid (show (fs.length + 1) * 8 ≤ 140737488355328 by omega)
        clear h0 hx hnl
        go_wp2_with (at_builtin; refine list_push _ rfl (.tmp 14) (.tmp 17) 28 rfl w.heap.size 3 i0 (.int .i64 0) 1 8 Try.underlying28 hi hz0 hz1 hz2 rfl (by decide) _ fs.length (fs.map (Value.int .i64)) rfl (Hown.out.alloc _) wr.heap.size #[.int .i64 (negM x)] rfl (Blk.new wr _ _) rfl (by intro u hu; rw [List.mem_singleton.1 hu]; rfl) X1.out (by decide) Hbel.out.size ?_; intro ga ca w3 ho3 hg3 _ _; have HO3 := Lib.hid ho3; have HB3 := Lib.hid (Below.grown (Hbel.out.alloc Hbel.out.size _) hg3 (Nat.le_trans Hbel.out.size (by simp)) (own_base_le Hown.out)); clear ho3 hg3)
        go_roundw
        case rel => exact ⟨i + 1, by omega, by go_num, by rw [Hs2.out, List.length_append, List.map_append]; exact HO3.out, HB3.out⟩
        case measure => simp only [intOf]; omega
      · have d2 : decide ((0 : Int) ≤ x) = false := decide_eq_false h0
        have Hs2 := Lib.hid (show negsM (c.take (i + 1)) = negsM (c.take i) by rw [Hsn.out, if_neg h0, List.append_nil])
        clear h0 hx hnl
        go_wp2
        go_roundw
        case rel => exact ⟨i + 1, by omega, by go_num, by rw [Hs2.out]; exact Hown.out, Hbel.out⟩
        case measure => simp only [intOf]; omega
    · obtain rfl : i = c.length := by omega
      have d1 : decide ((c.length : Int) < c.length) = false := by simp
      rw [List.take_length] at hown
      have HO := Lib.hid hown
      clear hown hbel hnl
      go_wp2
      go_ret
      exact ⟨_, rfl, HO.out, Hbel.out⟩

/-- Numbers of one byte, as cells. -/
def c8 (L : List Int) : Array Value := (L.map (Value.int .i8)).toArray
theorem c8_set (L : List Int) (i : Nat) (v : Int) : (c8 L).setIfInBounds i (.int .i8 v) = c8 (L.set i v) := by
  unfold c8
  rw [List.setIfInBounds_toArray, List.map_set]
theorem c8_get (L : List Int) (i : Nat) : (c8 L)[i]? = L[i]?.map (Value.int .i8) := by
  unfold c8
  rw [List.getElem?_toArray, List.getElem?_map]
theorem blk8_cell {w : World} {g i : Nat} {L : List Int} (h : Blk w g 40 (c8 L)) (hi : i < L.length) : w.cell? ⟨g, i, none⟩ = some (.int .i8 L[i]) := by
  rw [h.cell i, c8_get, List.getElem?_eq_getElem hi]; rfl
theorem blk8_set {w : World} {g : Nat} {L : List Int} (h : Blk w g 40 (c8 L)) (i : Nat) (v : Int) : Blk (w.setCell ⟨g, i, none⟩ (.int .i8 v)) g 40 (c8 (L.set i v)) := by
  rw [← c8_set]
  exact h.set_ i _
theorem blk8_row {w : World} {g : Nat} {L : List Int} (h : Blk w g 40 (c8 L)) (hl : L.length ≤ 1000000) : Row .i8 w (some ⟨g, 0, none⟩) L := by
  refine ⟨hl, .inr ⟨g, 0, rfl, h.lt, fun i hi => ?_⟩⟩
  rw [Nat.zero_add]
  exact blk8_cell h hi
theorem two_set {L : List Int} {k : Nat} (h : Two L k) (hk : k < 60) {v : Int} (hv : v = 1 ∨ v = 2) : Two (L.set k v) (k + 1) := by
  refine ⟨by rw [List.length_set]; exact h.1, fun i hi => ?_⟩
  by_cases e : i = k
  · subst e
    rw [List.getElem?_set_self (by rw [h.1]; exact hk)]
    rcases hv with rfl | rfl
    · exact .inl rfl
    · exact .inr rfl
  · rw [List.getElem?_set_ne (by omega)]
    exact h.2 i (by omega)
theorem two_again {L : List Int} {k : Nat} (h : Two L (k + 1)) {v : Int} (hv : v = 1 ∨ v = 2) : Two (L.set k v) (k + 1) := by
  refine ⟨by rw [List.length_set]; exact h.1, fun i hi => ?_⟩
  by_cases e : i = k
  · subst e
    rcases Nat.lt_or_ge i L.length with hl | hl
    · rw [List.getElem?_set_self hl]
      rcases hv with rfl | rfl
      · exact .inl rfl
      · exact .inr rfl
    · have := h.2 i hi
      rw [List.getElem?_eq_none hl] at this
      rcases this with h | h <;> cases h
  · rw [List.getElem?_set_ne (by omega)]
    exact h.2 i hi
theorem int8_infoB : (Try.prog.info? 40).map (fun i => (i.zero, i.size, i.bytes)) = some (some (.int .i8 0), 1, 1) := by kernel_rfl
def zeros60 : List Int := List.replicate 60 0
theorem two_zeros : Two zeros60 0 := ⟨by unfold zeros60; simp, fun i hi => by omega⟩
theorem make60 (w : World) : (Instr.makeSlice 26 (.int .i64 60) (.int .i64 60)).run Try.prog w = .ok (.slice (some ⟨w.heap.size, 0, none⟩) 60 60) (w.alloc (.cells (c8 zeros60) 40)) := by
  obtain ⟨i0, hi, hz0, hz1, hz2⟩ := info_parts int8_infoB
  have h := run_make_rowN (P := Try.prog) 26 40 i0 (.int .i8 0) Try.underlying26 hi hz0 .i64 .i64 60 60 (Nat.le_refl _) (by rw [hz2]; decide) (by decide) w
  refine Eq.trans h ?_
  rw [hz1]
  have e : madeCells (Value.int .i8 0).cells (60 * 1) = c8 zeros60 := by
    show madeCells #[Value.int .i8 0] 60 = _
    rw [made_one]
    unfold c8 zeros60
    rw [List.map_replicate]
  rw [e]

set_option maxHeartbeats 2000000 in
theorem full_ok {w : World} {BA : Option Addr} {lb cb : Nat} {BB : Nat → Bool} (hB : IsBools w BA lb cb BB) :
    Calls Try.prog 9 #[.slice BA lb cb] w fun e w' => ∃ L, e = .returned (.slice (some ⟨w.heap.size, 0, none⟩) 60 60) ∧ Two L 60 ∧ Row .i8 w' (some ⟨w.heap.size, 0, none⟩) L ∧ Below w.heap.size w w' := by
  have hlb : lb ≤ maxLen := by
    rcases hB with ⟨_, rfl, _⟩ | ⟨_, _, h1, h2, _⟩
    · exact Nat.zero_le _
    · omega
  unfold maxLen at hlb
  have WB := Lib.hid hB
  have hmk := make60
  clear hB
  go_enter Try.func9, Try.ntmps9
  go_wp2
  go_loopw [8] (fun vi wr => ∃ (k : Nat) (V : List Int), k ≤ 60 ∧ vi = .int .i64 k ∧ Blk wr w.heap.size 40 (c8 V) ∧ Two V k ∧ Below w.heap.size w wr) (fun vi _ => (60 - intOf vi).toNat)
  case atStart =>
    exact ⟨0, zeros60, Nat.zero_le _, rfl, Blk.new w _ _, two_zeros, (Below.refl _ w).alloc (Nat.le_refl _) _⟩
  case round =>
    obtain ⟨k, V, hk, rfl, hV, hV2, hbel⟩ := hrel
    by_cases hlt : k < 60
    · have y0 := blk8_cell hV (show k < V.length by rw [hV2.1]; exact hlt)
      have f0 := hV.frozen k
      generalize V[k]'(by rw [hV2.1]; exact hlt) = v0 at y0
      have HV := Lib.hid hV
      have HV2 := Lib.hid hV2
      have HB := Lib.hid hbel
      clear hV hV2
      have t1 : (k : Int) < 60 := by omega
      have t2 : (0 : Int) ≤ (k : Int) := by omega
      by_cases hb1 : k < lb
      · have d2 : decide ((k : Int) < (lb : Int)) = true := by simp; exact hb1
        obtain ⟨x, rfl, hz⟩ : ∃ x, BA = some x ∧ w.cell? (x.add k) = some (.bool (BB k)) := by
          rcases WB.out with ⟨_, h, _⟩ | ⟨x, hx, h1, _, h3⟩
          · omega
          · exact ⟨x, hx, h3 k (by omega)⟩
        have y2 : (wr.setCell ⟨w.heap.size, k, none⟩ (.int .i8 2)).cell? (x.add k) = some (.bool (BB k)) := ((hbel.setCell (Nat.le_refl _) _).cell (World.block_lt_of_cell? _ _ hz)).trans hz
        have hxb : x.block < w.heap.size := by have := World.block_lt_of_cell? _ _ hz; rwa [block_of_add] at this
        have t3 : (k : Int) < (lb : Int) := by omega
        clear hz hbel
        cases hB : BB k with
        | true =>
          rw [hB] at y2
          clear hB
          go_wp2
          go_roundw
          case rel =>
            exact ⟨k + 1, _, by omega, by go_num, blk8_set (blk8_set HV.out k 2) k 1, two_again (two_set HV2.out hlt (.inr rfl)) (.inl rfl), (HB.out.setCell (Nat.le_refl _) _).setCell (Nat.le_refl _) _⟩
          case measure => simp only [intOf]; omega
        | false =>
          rw [hB] at y2
          clear hB
          go_wp2
          go_roundw
          case rel => exact ⟨k + 1, _, by omega, by go_num, blk8_set HV.out k 2, two_set HV2.out hlt (.inr rfl), HB.out.setCell (Nat.le_refl _) _⟩
          case measure => simp only [intOf]; omega
      · have d2 : decide ((k : Int) < (lb : Int)) = false := by simp; omega
        clear hbel
        go_wp2
        go_roundw
        case rel => exact ⟨k + 1, _, by omega, by go_num, blk8_set HV.out k 2, two_set HV2.out hlt (.inr rfl), HB.out.setCell (Nat.le_refl _) _⟩
        case measure => simp only [intOf]; omega
    · obtain rfl : k = 60 := by omega
      have hVR := Lib.hid (blk8_row hV (by rw [hV2.1]; decide))
      have HV2 := Lib.hid hV2
      have HB := Lib.hid hbel
      clear hV hV2 hbel hk hlt
      go_wp2
      go_ret
      exact ⟨V, rfl, HV2.out, hVR.out, HB.out⟩
end Go.Proofs.Ythnakfdiikidaaa

/- A grid cloned. -/
namespace Go.Proofs.Ythnakfdiikidaaa
open Go.RowKit Go.Lib

theorem clone_info : (Try.prog.info? 28).map (fun i => (i.zero, i.size, i.bytes)) = some (some (.slice none 0 0), 1, 24) := by kernel_rfl

theorem clone_grid {w : World} {A : Option Addr} {rows : List (Option Addr × Nat × List Int)} (cap : Nat) (h : Grid w A rows) (hp : 0 < rows.length) :
    Calls Try.prog 34 #[.slice A rows.length cap] w fun e w' => ∃ v, e = .returned v ∧ w'.ownsRow w.heap.size 28 1 v rows.length (rows.map encR) ∧ Below w.heap.size w w' := by
  have hl := h.len
  obtain ⟨i0, hi, hz0, hz1, hz2⟩ := info_parts clone_info
  obtain ⟨b, off, rfl, _, hc⟩ := h.at_.resolve_left (by omega)
  refine (Try.slices_Clone_f34 i0 _ 1 24 hi hz0 hz1 hz2 rfl (by decide) Try.sizeOf28 b off rows.length cap (rows.map encR) w (by simp) (by unfold maxLen; omega) (by omega) ?_ ?_).mono fun e w' ⟨v, h1, h2, _, h3⟩ => ⟨v, h1, h2, h3⟩
  · intro j u hu
    rw [List.getElem?_map] at hu
    by_cases hj : j < rows.length
    · rw [List.getElem?_eq_getElem hj] at hu
      injection hu with hu
      rw [← hu]
      exact (hc j hj).1
    · rw [List.getElem?_eq_none (by omega)] at hu
      cases hu
  · intro u hu
    obtain ⟨r, _, rfl⟩ := List.mem_map.1 hu
    exact encR_one r
end Go.Proofs.Ythnakfdiikidaaa

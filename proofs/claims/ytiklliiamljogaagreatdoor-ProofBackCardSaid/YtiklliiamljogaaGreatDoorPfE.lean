/- Numerals' texts: num.Text, the reference's Text. -/
import Derived.Test.YtiklliiamljogaaGreatDoorPfA
import Derived.Test.YtiklliiamljogaaGreatDoorShelf
import Derived.Lib.AppendIntMem
import Derived.Lib.SlBytesRow
import Derived.Test.YtiklliiamljogaaGreatDoorTreeM
import Derived.Test.YtiklliiamljogaaGreatDoorPfD
namespace Go.Proofs.YtiklliiamljogaaGreatDoor
open Go.RowKit

/-- The library's table of powers of ten is there. -/
def Tab (w : World) : Prop := Lib.TabIs Tryz.prog w "internal/strconv.uint64pow10" .u64 Lib.pow10Tab
theorem Tab.keep {w w' : World} (h : Tab w) (hb : Below w.heap.size w w') : Tab w' := Lib.tabBelow_of_tabIs h w' hb
def tabName : String := "internal/strconv.uint64pow10"
theorem Tab.lt {w : World} (h : Tab w) {g : Nat} (hg : Tryz.prog.globalNamed tabName = some g) : g < w.heap.size := by
  unfold Tab Lib.TabIs World.var? at h
  rw [show Tryz.prog.globalNamed "internal/strconv.uint64pow10" = some g from hg] at h
  dsimp only [Option.bind_some] at h
  rcases Nat.lt_or_ge g w.heap.size with h1 | h1
  · exact h1
  · rw [Array.getElem?_eq_none h1] at h; cases h
theorem Tab.kept {w w' : World} {K : Nat → Prop} (h : Tab w) (hk : Kept K w w') (hK : ∀ g, Tryz.prog.globalNamed tabName = some g → ¬ K g) : Tab w' := by
  have hl := @Tab.lt w h
  unfold Tab Lib.TabIs World.var? at h ⊢
  cases hg : Tryz.prog.globalNamed "internal/strconv.uint64pow10" with
  | none => rw [hg] at h; cases h
  | some g =>
    rw [hg] at h
    dsimp only [Option.bind_some] at h ⊢
    rw [hk.block g (hl hg) (hK g hg)]
    exact h
def numB (n : Int) : ByteArray := ⟨(Lib.itoa n).toArray⟩

theorem nummay_ok (n : Int) (h0 : 0 ≤ n) (h1 : n ≤ 1073741824) (w : World) : Calls Tryz.prog 85 #[.int .i64 n] w fun e w' => e = .returned (.bool true) ∧ w = w' := by
  have hq : n / 4611686018427387904 = 0 := by omega
  go_enter Tryz.func85, Tryz.ntmps85
  go_wp2
  go_ret
  exact ⟨rfl, rfl⟩
theorem numtext_ok (n : Int) (h0 : 0 ≤ n) (h1 : n ≤ 1073741824) (w : World) (ht : Tab w) : Calls Tryz.prog 70 #[.int .i64 n] w fun e w' => e = .returned (.tuple #[.string (numB n), .int .i64 0]) ∧ Below w.heap.size w w' := by
  have d0 : decide (n < 0) = false := decide_eq_false (by omega)
  have HI := Lib.hid (Tryz.strconv_Itoa n (by omega) (by omega) w ht)
  have HM := Lib.hid (nummay_ok n h0 h1 w)
  go_enter Tryz.func70, Tryz.ntmps70
  go_wp2_with (first
    | (go_at_call 85; refine HM.out.mono ?_; rintro e w1 ⟨rfl, rfl⟩)
    | (go_at_call 86; refine HI.out.mono ?_; rintro e w1 ⟨rfl, k, os, rfl⟩))
  refine bodyPost_ret (v := .tuple #[.string (numB n), .int .i64 0]) (by simp [results, Tryz.results70, go_sem, numB]) rfl ⟨rfl, Lib.below_grow _ _ (Nat.le_refl _) k os⟩

/-! ### The reference's -/
theorem rnummay_ok (n : Int) (h0 : 0 ≤ n) (h1 : n ≤ 1073741824) (w : World) : Calls Tryz.prog 87 #[.int .i64 n] w fun e w' => e = .returned (.bool true) ∧ w = w' := by
  have d0 : decide (n ≥ -4611686018427387904) = true := decide_eq_true (by omega)
  have d0' : decide (-4611686018427387904 ≤ n) = true := d0
  have d1 : decide (n ≤ 4611686018427387904) = true := decide_eq_true (by omega)
  go_enter Tryz.func87, Tryz.ntmps87
  go_wp2
  go_ret
  exact ⟨rfl, rfl⟩
theorem dec_small {m : Nat} (h : m < 10) : Lib.decDigits m = [UInt8.ofNat (48 + m)] := Lib.decDigits_one h
theorem dec_big {m : Nat} (h : ¬ m < 10) : Lib.decDigits m = Lib.decDigits (m / 10) ++ [UInt8.ofNat (48 + m % 10)] := by
  conv => lhs; rw [Lib.decDigits]
  rw [dif_neg h]

set_option maxHeartbeats 1000000 in
set_option maxRecDepth 100000 in
theorem rnumtext_ok (n : Int) (h0 : 0 ≤ n) (h1 : n ≤ 1073741824) (w : World) : Calls Tryz.prog 71 #[.int .i64 n] w fun e w' => e = .returned (.tuple #[.string (numB n), .int .i64 0]) ∧ Below w.heap.size w w' := by
  have hlen := itoa_len h0 h1
  obtain ⟨N, rfl⟩ := Int.eq_ofNat_of_zero_le h0
  have d0 : decide ((N : Int) < 0) = false := decide_eq_false (by omega)
  have HM := Lib.hid (rnummay_ok (N : Int) h0 h1 w)
  unfold numB
  rw [Lib.itoa_nonneg] at hlen ⊢
  obtain ⟨L, hL⟩ : ∃ L, Lib.decDigits N = L := ⟨_, rfl⟩
  rw [hL] at hlen ⊢
  have HL := Lib.hid hL
  clear hL
  go_enter Tryz.func71, Tryz.ntmps71
  go_wp2_with (go_at_call 87; refine HM.out.mono ?_; rintro e w1 ⟨rfl, rfl⟩)
  go_loopw [0, 6] (fun v d wx => Below w.heap.size w wx ∧ ∃ (m : Nat) (s : ByteArray), m ≤ 1073741824 ∧ v = .int .i64 m ∧ d = .string s ∧ s.size ≤ 10 ∧ Lib.decDigits m ++ byts s = L) (fun v _ _ => (intOf v).toNat)
  case atStart => exact ⟨Below.refl _ _, N, ⟨#[]⟩, by omega, rfl, rfl, by decide, by rw [HL.out]; exact List.append_nil _⟩
  case round =>
    obtain ⟨hB, m, s, hm, rfl, rfl, hs, hinv⟩ := hrel
    have HB := Lib.hid hB
    have HI := Lib.hid hinv
    clear hB hinv
    have e1 : Int.tmod (m : Int) 10 = ((m % 10 : Nat) : Int) := by have := Int.tmod_eq_emod_of_nonneg (b := 10) (show (0 : Int) ≤ (m : Int) by omega); omega
    have e2 : Int.tdiv (m : Int) 10 = ((m / 10 : Nat) : Int) := by have := Int.tdiv_eq_ediv_of_nonneg (b := 10) (show (0 : Int) ≤ (m : Int) by omega); omega
    have e1' : (m : Int) % 10 = ((m % 10 : Nat) : Int) := by omega
    have e2' : (m : Int) / 10 = ((m / 10 : Nat) : Int) := by omega
    obtain ⟨d, hd⟩ : ∃ d, m % 10 = d := ⟨_, rfl⟩
    obtain ⟨q, hq⟩ : ∃ q, m / 10 = q := ⟨_, rfl⟩
    have hd9 : d < 10 := by omega
    rw [hd] at e1 e1'
    rw [hq] at e2 e2'
    have e3 : IntKind.wrap .u8 (48 + (d : Int)) = 48 + (d : Int) := by rw [IntKind.wrap_u8]; exact Int.emod_eq_of_lt (by omega) (by omega)
    obtain ⟨x, hx⟩ : ∃ x, UInt8.ofNat (48 + d) = x := ⟨_, rfl⟩
    have hxn : x.toNat = 48 + d := by rw [← hx]; exact dig_toNat hd9
    have hcv : (convert 52 9 (.slice (some ⟨wr.heap.size, 0, none⟩) 1 1)).run Tryz.prog (wr.alloc (.cells #[.int .u8 (48 + (d : Int))] 5)) = .ok (.string ⟨#[x]⟩) (wr.alloc (.cells #[.int .u8 (48 + (d : Int))] 5)) := by
      refine Lib.run_convert_whole _ _ 5 _ Tryz.underlying52 Tryz.underlying5 Tryz.underlying9 wr.heap.size 0 ⟨#[x]⟩ (fun i hi => ?_) 1
      have hi0 : i = 0 := by have : i < 1 := hi; omega
      subst hi0
      rw [(Blk.new wr 5 #[.int .u8 (48 + (d : Int))]).cell 0]
      show some (Value.int .u8 (48 + (d : Int))) = some (.int .u8 (x.toNat : Int))
      rw [hxn]
      congr 2
    have HX := Lib.hid (show byts (⟨#[x]⟩ ++ s) = x :: byts s from by simp [byts])
    have hsz : (⟨#[x]⟩ ++ s : ByteArray).size = s.size + 1 := by rw [← byts_len, HX.out, List.length_cons, byts_len]
    obtain ⟨s2, hs2⟩ : ∃ s2, (⟨#[x]⟩ ++ s : ByteArray) = s2 := ⟨_, rfl⟩
    rw [hs2] at HX hsz
    have hbb : Below w.heap.size w (wr.alloc (.cells #[.int .u8 (48 + (d : Int))] 5)) := HB.out.alloc HB.out.size _
    have HBB := Lib.hid hbb
    clear hbb
    have HXX := Lib.hid hx
    clear hx hxn
    by_cases hq0 : q = 0
    · have hm10 : m < 10 := by omega
      have b0 : ((q : Int) == 0) = true := by rw [hq0]; rfl
      have HE := Lib.hid (show byts s2 = L by
        rw [HX.out, ← HI.out, dec_small hm10, ← HXX.out, show d = m by omega]
        rfl)
      subst hq0
      clear HX HI
      go_wp2
      refine bodyPost_ret (v := .tuple #[.string ⟨L.toArray⟩, .int .i64 0]) ?_ rfl ⟨rfl, HBB.out⟩
      have : s2 = ⟨L.toArray⟩ := by rw [← HE.out, ← Lib.mk_data s2]
      rw [← this]
      simp [results, Tryz.results71, go_sem]
    · have hm10 : ¬ m < 10 := by omega
      have b0 : ((q : Int) == 0) = false := beq_eq_false_iff_ne.2 (by omega)
      have HE := Lib.hid (show Lib.decDigits q ++ byts s2 = L by
        rw [HX.out, ← HI.out, dec_big hm10, hq, hd, HXX.out, List.append_assoc]
        rfl)
      have hs10 : s2.size ≤ 10 := by
        have h1 := congrArg List.length HE.out
        rw [List.length_append, byts_len] at h1
        omega
      clear HX HI
      go_wp2
      go_roundw
      case rel => exact ⟨HBB.out, q, s2, by omega, rfl, rfl, hs10, HE.out⟩
      case measure => simp only [intOf]; omega
end Go.Proofs.YtiklliiamljogaaGreatDoor

/- Rows of expressions that are written: pushes, stores. -/
namespace Go.Proofs.YtiklliiamljogaaGreatDoor
open Go.RowKit

theorem Acc.one (w : World) (y : C3) (X : Sx) (hy : Lies (fun b => w.heap.size ≤ b ∧ b ≠ w.heap.size) (w.alloc (.cells #[.int .i8 y.k, .string y.t, .slice y.A y.n y.c] 28)) y.val X) :
    Acc (w.alloc (.cells #[.int .i8 y.k, .string y.t, .slice y.A y.n y.c] 28)) w.heap.size (.slice (some ⟨w.heap.size, 0, none⟩) 1 1) [y] [X] := by
  refine ⟨⟨rfl, .inr ⟨w.heap.size, 1, #[.int .i8 y.k, .string y.t, .slice y.A y.n y.c], rfl, Nat.le_refl _, heap_alloc_new w _, Nat.le_refl _, by decide, rfl, rfl⟩⟩, rfl, fun i hi => ?_⟩
  obtain rfl : i = 0 := by have : i < 1 := hi; omega
  exact hy.mono fun b _ hb => ⟨hb.1, fun e => hb.2 (by simpa [Value.ownBlock] using e.symm)⟩
theorem Acc.own_lt {w : World} {D : Nat} {sv : Value} {cs : List C3} {xs : List Sx} (h : Acc w D sv cs xs) {b : Nat} (hb : sv.ownBlock = some b) : D ≤ b ∧ b < w.heap.size := h.own.lt b hb

/-- append of one expression that lies in a new block of its own. -/
theorem acc_push_list (w : World) {ops : Array Oper} {rest : List Oper} {o : Oper} {a : Act} {Q : Exit → Act → World → Prop} (hgd : o.guard = none) (s x : Operand)
    (ho : o.op = .call { callee := .builtin .append, args := #[s, x], argTypes := #[26, 26] })
    (D : Nat) (sv : Value) (cs : List C3) (xs : List Sx) (h : Acc w D sv cs xs) (hD : D ≤ w.heap.size) (y : C3) (X : Sx) (hy : Lies (fun b => D ≤ b ∧ sv.ownBlock ≠ some b) w y.val X) (hn : (cs.length + 1) * 48 ≤ 140737488355328)
    (hs : a.eval s = sv) (hx : a.eval x = .slice (some ⟨w.heap.size, 0, none⟩) 1 1)
    (hk : ∀ g cap w', Acc w' D (.slice (some ⟨g, 0, none⟩) (cs.length + 1) cap) (cs ++ [y]) (xs ++ [X]) → Kept (fun i => sv.ownBlock = some i) w w' → (sv.ownBlock = some g ∨ w.heap.size < g) → wpList Tryz.prog ops Q rest (a.put o.dst (.slice (some ⟨g, 0, none⟩) (cs.length + 1) cap)) w') :
    wpList Tryz.prog ops Q (o :: rest) a (w.alloc (.cells #[.int .i8 y.k, .string y.t, .slice y.A y.n y.c] 28)) := by
  obtain ⟨i0, hi, hz0, hz1, hz2⟩ := info_parts sexp_info
  have hb : Below w.heap.size w (w.alloc (.cells #[.int .i8 y.k, .string y.t, .slice y.A y.n y.c] 28)) := (Below.refl _ w).alloc (Nat.le_refl _) _
  refine list_push _ hgd s x 26 ho D 28 i0 zeroX 3 48 Tryz.underlying26 hi hz0 hz1 hz2 rfl (by decide) sv cs.length (cs.flatMap C3.cells) hs (h.keep hb).own w.heap.size #[.int .i8 y.k, .string y.t, .slice y.A y.n y.c] hx (Blk.new _ _ _) rfl (by simp [Value.oneCell']) hn (by decide) hD ?_
  intro g cap w' hown hgrow hat hlt
  refine hk g cap w' ((h.keep hb).push (y := y) (hy.keep hb) hown hgrow hat) ?_ ?_
  · exact ((Kept.of_below (S := fun i => sv.ownBlock = some i) hb)).grown hgrow fun k hk => .inl hk
  · rcases hat with hat | hat
    · exact .inl hat
    · exact .inr (by rw [hat]; simp)
/-- The same at a step of a region that draws its order. -/
theorem acc_push_step (w : World) {ops : Array Oper} {o : Oper} {a : Act} {K : Act → World → Prop} {Q : Exit → Act → World → Prop} {E : Prop} (hgd : o.guard = none) (s x : Operand)
    (ho : o.op = .call { callee := .builtin .append, args := #[s, x], argTypes := #[26, 26] })
    (D : Nat) (sv : Value) (cs : List C3) (xs : List Sx) (h : Acc w D sv cs xs) (hD : D ≤ w.heap.size) (y : C3) (X : Sx) (hy : Lies (fun b => D ≤ b ∧ sv.ownBlock ≠ some b) w y.val X) (hn : (cs.length + 1) * 48 ≤ 140737488355328)
    (hs : a.eval s = sv) (hx : a.eval x = .slice (some ⟨w.heap.size, 0, none⟩) 1 1)
    (hk : ∀ g cap w', Acc w' D (.slice (some ⟨g, 0, none⟩) (cs.length + 1) cap) (cs ++ [y]) (xs ++ [X]) → Kept (fun i => sv.ownBlock = some i) w w' → (sv.ownBlock = some g ∨ w.heap.size < g) → K (a.put o.dst (.slice (some ⟨g, 0, none⟩) (cs.length + 1) cap)) w') :
    if Region.wanted o (yielded ops a.tmps) = true then Oper.wp Tryz.prog o a (w.alloc (.cells #[.int .i8 y.k, .string y.t, .slice y.A y.n y.c] 28)) K Q else E := by
  obtain ⟨i0, hi, hz0, hz1, hz2⟩ := info_parts sexp_info
  have hb : Below w.heap.size w (w.alloc (.cells #[.int .i8 y.k, .string y.t, .slice y.A y.n y.c] 28)) := (Below.refl _ w).alloc (Nat.le_refl _) _
  refine step_push _ hgd s x 26 ho D 28 i0 zeroX 3 48 Tryz.underlying26 hi hz0 hz1 hz2 rfl (by decide) sv cs.length (cs.flatMap C3.cells) hs (h.keep hb).own w.heap.size #[.int .i8 y.k, .string y.t, .slice y.A y.n y.c] hx (Blk.new _ _ _) rfl (by simp [Value.oneCell']) hn (by decide) hD ?_
  intro g cap w' hown hgrow hat hlt
  refine hk g cap w' ((h.keep hb).push (y := y) (hy.keep hb) hown hgrow hat) ?_ ?_
  · exact ((Kept.of_below (S := fun i => sv.ownBlock = some i) hb)).grown hgrow fun k hk => .inl hk
  · rcases hat with hat | hat
    · exact .inl hat
    · exact .inr (by rw [hat]; simp)
theorem Acc.drew {w : World} {D : Nat} {sv : Value} {cs : List C3} {xs : List Sx} (h : Acc w D sv cs xs) : Acc w.drew D sv cs xs := h.keep ((Below.refl _ w).drew)

/-- The last one is stored anew. -/
theorem Acc.stored {w : World} {D g cap : Nat} {cs : List C3} {xs : List Sx} {y0 y : C3} {X0 X : Sx} (h : Acc w D (.slice (some ⟨g, 0, none⟩) (cs.length + 1) cap) (cs ++ [y0]) (xs ++ [X0])) (hy : Lies (fun b => D ≤ b ∧ g ≠ b) w y.val X) :
    Acc (((w.setCell ⟨g, cs.length * 3, none⟩ (.int .i8 y.k)).setCell ⟨g, cs.length * 3 + 1, none⟩ (.string y.t)).setCell ⟨g, cs.length * 3 + 2, none⟩ (.slice y.A y.n y.c)) D (.slice (some ⟨g, 0, none⟩) (cs.length + 1) cap) (cs ++ [y]) (xs ++ [X]) := by
  have hlen : (cs.flatMap C3.cells).length = cs.length * 3 := by
    clear h hy
    induction cs with
    | nil => rfl
    | cons c r ih => rw [List.flatMap_cons, List.length_append, C3.cells_len, ih, List.length_cons]; omega
  have hl : (cs ++ [y0]).length = cs.length + 1 := by simp
  have ho := h.own
  rw [hl] at ho
  obtain ⟨o1, g1⟩ := ho.stored (cs.length * 3) (.int .i8 y.k)
  obtain ⟨o2, g2⟩ := o1.stored (cs.length * 3 + 1) (.string y.t)
  obtain ⟨o3, g3⟩ := o2.stored (cs.length * 3 + 2) (.slice y.A y.n y.c)
  have hcells : ((((cs ++ [y0]).flatMap C3.cells).set (cs.length * 3) (.int .i8 y.k)).set (cs.length * 3 + 1) (.string y.t)).set (cs.length * 3 + 2) (.slice y.A y.n y.c) = (cs ++ [y]).flatMap C3.cells := by
    rw [List.flatMap_append, List.flatMap_append, List.set_append_right _ _ (by omega), List.set_append_right _ _ (by omega), List.set_append_right _ _ (by omega), hlen]
    congr 1
    simp [C3.cells]
  rw [hcells] at o3
  have hk : Kept (fun i => i = g) w (((w.setCell ⟨g, cs.length * 3, none⟩ (.int .i8 y.k)).setCell ⟨g, cs.length * 3 + 1, none⟩ (.string y.t)).setCell ⟨g, cs.length * 3 + 2, none⟩ (.slice y.A y.n y.c)) :=
    Kept.setCell (S := fun i => i = g) (Kept.setCell (S := fun i => i = g) (Kept.setCell (S := fun i => i = g) (Kept.refl _ w) (p := ⟨g, cs.length * 3, none⟩) (.inl rfl) _) (p := ⟨g, cs.length * 3 + 1, none⟩) (.inl rfl) _) (p := ⟨g, cs.length * 3 + 2, none⟩) (.inl rfl) _
  refine ⟨by simpa using o3, by have := h.len; simp at this ⊢; exact this, fun i hi => ?_⟩
  have hlx : cs.length = xs.length := by have := h.len; simp at this; exact this
  have hS : ∀ {v : Value} {z : Sx}, Lies (fun b => D ≤ b ∧ (Value.slice (some ⟨g, 0, none⟩) (cs.length + 1) cap).ownBlock ≠ some b) w v z → Lies (fun b => D ≤ b ∧ (Value.slice (some ⟨g, 0, none⟩) (cs.length + 1) cap).ownBlock ≠ some b) (((w.setCell ⟨g, cs.length * 3, none⟩ (.int .i8 y.k)).setCell ⟨g, cs.length * 3 + 1, none⟩ (.string y.t)).setCell ⟨g, cs.length * 3 + 2, none⟩ (.slice y.A y.n y.c)) v z := fun hz =>
    hz.kept hk fun b _ hs e => hs.2 (by rw [e]; rfl)
  rcases Nat.lt_or_ge i cs.length with h1 | h1
  · rw [List.getElem_append_left h1, List.getElem_append_left (hlx ▸ h1)]
    have := h.kids i (by rw [hl]; omega)
    rw [List.getElem_append_left h1, List.getElem_append_left (hlx ▸ h1)] at this
    exact hS this
  · rw [List.length_append, List.length_singleton] at hi
    obtain rfl : i = cs.length := by omega
    rw [List.getElem_append_right (Nat.le_refl _), List.getElem_append_right (by rw [hlx]; exact Nat.le_refl _)]
    have := hS (hy.mono (S' := fun b => D ≤ b ∧ (Value.slice (some ⟨g, 0, none⟩) (cs.length + 1) cap).ownBlock ≠ some b) fun b _ hs => ⟨hs.1, fun e => hs.2 (by simpa [Value.ownBlock] using e)⟩)
    simpa using this
end Go.Proofs.YtiklliiamljogaaGreatDoor

/- Symbols, numerals, heads. -/
namespace Go.Proofs.YtiklliiamljogaaGreatDoor
open Go.RowKit

theorem leaf_num (S : Nat → Prop) (w : World) (n : Int) : Lies S w (C3.val ⟨1, numB n, none, 0, 0⟩) (numS n) := Lies.leaf S w 1 (Lib.itoa n)
theorem leaf_sym (S : Nat → Prop) (w : World) (t : List UInt8) : Lies S w (C3.val ⟨0, ⟨t.toArray⟩, none, 0, 0⟩) (symS t) := Lies.leaf S w 0 t

theorem sym_ok (s : ByteArray) (w : World) : Calls Tryz.prog 26 #[.string s] w fun e w' => e = .returned (.agg #[.int .i8 0, .string s, .slice none 0 0]) ∧ Below w.heap.size w w' := by
  have hb : ∀ c, Below w.heap.size w (w.alloc (.cells c 28)) := fun c => (Below.refl _ _).alloc (Nat.le_refl _) _
  go_enter Tryz.func26, Tryz.ntmps26
  go_wp2
  exact bodyPost_ret (v := .agg #[.int .i8 0, .string s, .slice none 0 0]) (by simp [results, Tryz.results26, go_sem]) rfl ⟨rfl, hb _⟩
theorem rsym_ok (s : ByteArray) (w : World) : Calls Tryz.prog 28 #[.string s] w fun e w' => e = .returned (.agg #[.int .i8 0, .string s, .slice none 0 0]) ∧ Below w.heap.size w w' := by
  have hb : ∀ c, Below w.heap.size w (w.alloc (.cells c 28)) := fun c => (Below.refl _ _).alloc (Nat.le_refl _) _
  go_enter Tryz.func28, Tryz.ntmps28
  go_wp2
  exact bodyPost_ret (v := .agg #[.int .i8 0, .string s, .slice none 0 0]) (by simp [results, Tryz.results28, go_sem]) rfl ⟨rfl, hb _⟩
theorem rnum_ok (n : Int) (h : fitN n = true) (w : World) : Calls Tryz.prog 54 #[.int .i64 n] w fun e w' => e = .returned (.agg #[.int .i8 1, .string (numB n), .slice none 0 0]) ∧ Below w.heap.size w w' := by
  have hf := (fit_iff n).1 h
  have HT := Lib.hid (fun w => rnumtext_ok n hf.1 hf.2 w)
  have HB := Lib.hid ((Below.refl w.heap.size w).alloc (Nat.le_refl _) (.cells #[.int .i8 0, .string ⟨#[]⟩, .slice none 0 0] 28))
  have HK := Lib.hid (Blk.new w 28 #[.int .i8 0, .string ⟨#[]⟩, .slice none 0 0])
  go_enter Tryz.func54, Tryz.ntmps54
  go_wp2_with (go_at_call 71; refine (HT.out _).mono ?_; rintro e w1 ⟨rfl, hb1⟩; have hk1 := HK.out.below hb1 HK.out.lt; obtain ⟨x0, x1, x2, f0, f1, f2⟩ := blk3 hk1; have HK1 := Lib.hid hk1; have HB1 := Lib.hid (below_then HB.out (Nat.le_refl _) (hb1.mono (Nat.le_refl _))))
  obtain ⟨z0, z1, z2, _⟩ := blk3 (Blk.set3 HK1.out (.int .i8 1) (.string (numB n)) (.slice none 0 0))
  refine bodyPost_ret (v := .agg #[.int .i8 1, .string (numB n), .slice none 0 0]) (by simp [results, Tryz.results54, go_sem, z0, z1, z2]) rfl ⟨rfl, ?_⟩
  exact ((((Kept.of_below (S := fun i => w.heap.size ≤ i) (HB1.out)).setCell (p := ⟨w.heap.size, 0, none⟩) (.inl (Nat.le_refl _)) _).setCell (p := ⟨w.heap.size, 1, none⟩) (.inl (Nat.le_refl _)) _).setCell (p := ⟨w.heap.size, 2, none⟩) (.inl (Nat.le_refl _)) _).below (Nat.le_refl _) (fun k hk => hk)
theorem rhead_ok (k : Int) (h0 : 0 ≤ k) (h6 : k < 6) (w : World) : Calls Tryz.prog 52 #[.int .i8 k] w fun e w' => e = .returned (.string ⟨(headK k).toArray⟩) ∧ w = w' := by
  have hk : k = 0 ∨ k = 1 ∨ k = 2 ∨ k = 3 ∨ k = 4 ∨ k = 5 := by omega
  rcases hk with rfl | rfl | rfl | rfl | rfl | rfl
  all_goals
    go_enter Tryz.func52, Tryz.ntmps52
    go_wp2
    go_ret
    exact ⟨rfl, rfl⟩
theorem rmany_ok (k : Int) (h0 : 0 ≤ k) (h6 : k < 6) (w : World) : Calls Tryz.prog 53 #[.int .i8 k] w fun e w' => e = .returned (.int .i64 (manyK k)) ∧ w = w' := by
  have hk : k = 0 ∨ k = 1 ∨ k = 2 ∨ k = 3 ∨ k = 4 ∨ k = 5 := by omega
  rcases hk with rfl | rfl | rfl | rfl | rfl | rfl
  all_goals
    go_enter Tryz.func53, Tryz.ntmps53
    go_wp2
    go_ret
    exact ⟨rfl, rfl⟩
end Go.Proofs.YtiklliiamljogaaGreatDoor

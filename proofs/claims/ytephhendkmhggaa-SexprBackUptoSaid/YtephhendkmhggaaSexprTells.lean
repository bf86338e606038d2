/- An expression that came in. -/
import Derived.Test.YtephhendkmhggaaOpen
import Derived.Test.YtephhendkmhggaaMass
import Derived.Deep.Fields
import Derived.Test.YtephhendkmhggaaWakes
import Derived.Test.YtephhendkmhggaaSameA
namespace Go.Proofs.Ytephhendkmhggaa
open Go.ChangeShapes Go.WideShapes Go.ChangeAt Go.RowKit

theorem choose_list {α : Type} : ∀ {n : Nat} {p : Nat → α → Prop}, (∀ i, i < n → ∃ x, p i x) → ∃ l : List α, ∃ h : l.length = n, ∀ i (hi : i < n), p i (l[i]'(h ▸ hi))
  | 0, _, _ => ⟨[], rfl, fun i hi => absurd hi (Nat.not_lt_zero _)⟩
  | n + 1, p, h => by
    obtain ⟨l, hl, hp⟩ := choose_list (n := n) (p := fun i x => p (i + 1) x) (fun i hi => h (i + 1) (Nat.succ_lt_succ hi))
    obtain ⟨x, hx⟩ := h 0 (Nat.succ_pos n)
    refine ⟨x :: l, by simp [hl], fun i hi => ?_⟩
    cases i with
    | zero => exact hx
    | succ i => exact hp i (Nat.lt_of_succ_lt_succ hi)
theorem add_nought (a : Addr) : a.add 0 = a := by
  obtain ⟨b, o, s⟩ := a
  unfold Addr.add
  split <;> simp_all
theorem cell_spot {w : World} {a : Addr} {v : Value} (h : w.cell? a = some v) : a.spot = none := by
  unfold World.cell? at h
  split at h
  · split at h
    · cases h
    · rename_i hs
      cases hsp : a.spot with
      | none => rfl
      | some _ => rw [hsp] at hs; exact absurd rfl hs
  · cases h

theorem one_le {H : Type} (d : DataW H) : 1 ≤ Rows.uptoBulk d := by
  cases d with
  | lit l => cases l <;> simp [Rows.uptoBulk]
  | nil => simp [Rows.uptoBulk]
  | ptr d => simp [Rows.uptoBulk]
  | slice elems spare => simp [Rows.uptoBulk]
  | agg parts => simp [Rows.uptoBulk]
  | iface t d => simp [Rows.uptoBulk]
  | map entries => simp [Rows.uptoBulk]
  | held h => simp [Rows.uptoBulk]
theorem masses_all {H : Type} : ∀ (l : List Sx) (ds : List (DataW H)), l.length = ds.length → (∀ i (h1 : i < l.length) (h2 : i < ds.length), (l[i]).mass ≤ Rows.uptoBulk ds[i]) → Sx.masses l ≤ Rows.uptoBulkAll ds
  | [], _, _, _ => by rw [Sx.masses]; exact Nat.zero_le _
  | x :: r, [], h, _ => by simp at h
  | x :: r, d :: ds, h, hp => by
    have h0 := hp 0 (by simp) (by simp)
    have h1 := masses_all r ds (by simpa using h) (fun i a b => hp (i + 1) (by simpa using a) (by simpa using b))
    simp only [List.getElem_cons_zero] at h0
    rw [Sx.masses, Rows.uptoBulkAll]
    omega

theorem sx_open {H : Type} {enc : TypeId × Value → H} {W : World} {b : Nat} {hd : Bool} : ∀ (fuel : Nat) (cs : List Value) (r : DataW H × List MemPlace),
    DataW.trod enc Try.prog W b (fun _ => true) hd fuel 26 cs = some r → ∃ (y : C3) (x : Sx), cs = y.cells ∧ Lies (fun _ => True) W y.val x ∧ x.mass ≤ Rows.uptoBulk r.1 := by
  intro fuel
  induction fuel using Nat.strongRecOn with
  | ind fuel ih =>
  intro cs r h
  obtain ⟨xs, n, rfl, hr, hlen, hxl, hfd⟩ := DataW.trod_struct Try.underlying26 h
  have c26 : Try.prog.cellsOf 26 = 3 := by kernel_rfl
  have c23 : Try.prog.cellsOf 23 = 1 := by kernel_rfl
  have c9 : Try.prog.cellsOf 9 = 1 := by kernel_rfl
  have c24 : Try.prog.cellsOf 24 = 1 := by kernel_rfl
  rw [c26] at hlen
  match cs, hlen, xs, hxl with
  | [v0, v1, v2], _, [y0, y1, y2], _ =>
    have k0 := hfd 0 _ rfl
    have k1 := hfd 1 _ rfl
    have k2 := hfd 2 _ rfl
    simp [c23] at k0
    simp [c9] at k1
    simp [c24] at k2
    obtain ⟨k, e0, q0, _⟩ := DataW.trod_int Try.underlying23 k0
    obtain ⟨t, e1, q1, ht⟩ := DataW.trod_string Try.underlying9 k1
    injection e0 with e0
    injection e1 with e1
    subst e0 e1 q0 q1
    have hbt : (byts t).length = t.data.toList.length := rfl
    rcases DataW.trod_slice Try.underlying24 k2 with ⟨e2, q2⟩ | ⟨a, len, cap, elems, rest, m, hm, e2, q2, _, hlc, hcm, hel, hget, _⟩
    · injection e2 with e2
      subst e2 q2
      refine ⟨⟨k, t, none, 0, 0⟩, .mk k (byts t) [], rfl, ?_, ?_⟩
      rotate_left
      · rw [hr]
        simp only [Sx.mass, Sx.masses, Rows.uptoBulk, Rows.uptoBulkAll, List.map_cons, List.map_nil, hbt]
        omega
      exact Lies.mk (S := fun _ => True) (w := W) k t none 0 [] [] rfl (Nat.le_refl _) (fun _ => rfl) (by decide) (.inl rfl) (fun i hi => absurd hi (Nat.not_lt_zero _))
    · injection e2 with e2
      subst e2 q2
      rw [c26] at hget
      have each : ∀ i, i < len → ∃ z : C3 × Sx, (W.cell? (a.add (i * 3)) = some (.int .i8 z.1.k) ∧ W.cell? ((a.add (i * 3)).add 1) = some (.string z.1.t) ∧ W.cell? ((a.add (i * 3)).add 2) = some (.slice z.1.A z.1.n z.1.c)) ∧ Lies (fun _ => True) W z.1.val z.2 ∧ ∀ h, z.2.mass ≤ Rows.uptoBulk (elems[i]'h).1 := fun i hi => by
        have h1 := hget i hi
        rw [List.getElem?_eq_getElem (by rw [hel]; exact hi)] at h1
        obtain ⟨cs', h2, h3⟩ := Option.bind_eq_some_iff.1 h1
        obtain ⟨y, x, rfl, hl, hma⟩ := ih m (by omega) cs' _ h3
        obtain ⟨_, _, hc⟩ := World.cells?_some h2
        exact ⟨(y, x), ⟨by simpa [C3.cells, add_nought] using hc 0 (by decide), by simpa [C3.cells] using hc 1 (by decide), by simpa [C3.cells] using hc 2 (by decide)⟩, hl, fun _ => hma⟩
      obtain ⟨zs, hz, hp⟩ := choose_list each
      refine ⟨⟨k, t, some a, len, cap⟩, .mk k (byts t) (zs.map (·.2)), rfl, ?_, ?_⟩
      rotate_left
      · have hms := masses_all (zs.map (·.2)) (elems.map (·.1)) (by simp [hz, hel]) (fun i h1 h2 => by
          rw [List.getElem_map, List.getElem_map]
          exact (hp i (by simpa [hz] using h1)).2.2 (by simpa using h2))
        rw [hr]
        simp only [Sx.mass, Rows.uptoBulk, Rows.uptoBulkAll, List.map_cons, List.map_nil, hbt]
        omega
      have hlen2 : (zs.map (·.2)).length = len := by rw [List.length_map, hz]
      have := Lies.mk (S := fun _ => True) (w := W) k t (some a) cap (zs.map fun z => z.1.val) (zs.map (·.2)) (by simp) (by rw [hlen2]; exact hlc) (fun e => by cases e) (by rw [hlen2]; unfold maxLen at hcm; omega) ?_ (fun i hi => by
        rw [List.getElem_map, List.getElem_map]
        exact (hp i (by simpa [hz] using hi)).2.1)
      · rw [hlen2] at this
        exact this
      · rcases Nat.eq_zero_or_pos len with h0 | h0
        · exact .inl (List.eq_nil_of_length_eq_zero (by rw [hlen2]; exact h0))
        · have hsp := cell_spot (hp 0 h0).1.1
          have hsp2 : a.spot = none := by
            unfold Addr.add at hsp
            split at hsp <;> simp_all
          obtain ⟨b', off, sp⟩ := a
          dsimp only at hsp2
          subst hsp2
          have hadd : ∀ o j, (⟨b', o, none⟩ : Addr).add j = ⟨b', o + j, none⟩ := fun o j => by unfold Addr.add; split <;> simp_all
          refine .inr ⟨b', off, rfl, True.intro, ?_, fun i hi => ?_⟩
          · have := World.block_lt_of_cell? _ _ (hp 0 h0).1.1
            rw [hadd] at this
            exact this
          · obtain ⟨⟨g0, g1, g2⟩, _⟩ := hp i (by simpa [hz] using hi)
            rw [hadd] at g0
            rw [hadd, hadd] at g1 g2
            rw [List.getElem_map]
            exact ⟨_, _, _, rfl, g0, g1, g2⟩
theorem C3.val_inj {a b : C3} (h : a.val = b.val) : a = b := by
  obtain ⟨k, t, A, n, c⟩ := a
  obtain ⟨k', t', A', n', c'⟩ := b
  simp only [C3.val, Value.agg.injEq, Array.mk.injEq, List.cons.injEq, Value.int.injEq, Value.string.injEq, Value.slice.injEq] at h
  obtain ⟨⟨_, rfl⟩, rfl, ⟨rfl, rfl, rfl⟩, _⟩ := h
  rfl
/-- An argument that is an expression. -/
theorem sexp_in {H : Type} {enc : TypeId × Value → H} {W : World} {b base : Nat} {hd : Bool} {v : Value} {d : DataW H} {p : List MemPlace} (hv : Value.okWide Try.prog W .any base 26 v) (h : DataW.Trod enc Try.prog W b (fun _ => true) hd 26 v d p) :
    ∃ (y : C3) (x : Sx), v = y.val ∧ Lies (fun _ => True) W y.val x ∧ x.mass ≤ Rows.uptoBulk d := by
  obtain ⟨cs, rfl, _⟩ := okWide_struct Try.underlying26 hv
  obtain ⟨fuel, hf⟩ := h
  obtain ⟨y, x, hc, hl, hm⟩ := sx_open fuel _ _ hf
  refine ⟨y, x, ?_, hl, hm⟩
  have hc2 : cs.toList = y.cells := hc
  show Value.agg cs = Value.agg #[.int .i8 y.k, .string y.t, .slice y.A y.n y.c]
  congr 1
  apply Array.ext'
  rw [hc2]
  rfl
end Go.Proofs.Ytephhendkmhggaa

/- A quiet walk, operation by operation: an operation that is wanted has one value in every world of the class; one that is passed over has none. -/
namespace Go.Proofs.Ytephhendkmhggaa
open Go.RowKit

theorem wpQuiet_want {P : Program} {ops : Array Oper} {C : World → Prop} {Q : Act → Prop} {a : Act} {o : Oper} {rest : List Oper} (hw : Region.wanted o (yielded ops a.tmps) = true) (v : Value) (h1 : ∀ w, C w → o.quietAt P a C w v) (h2 : wpQuiet P ops C Q rest (a.put o.dst v)) : wpQuiet P ops C Q (o :: rest) a := by
  unfold wpQuiet
  rw [if_pos hw]
  exact ⟨v, h1, h2⟩
theorem wpQuiet_skip {P : Program} {ops : Array Oper} {C : World → Prop} {Q : Act → Prop} {a : Act} {o : Oper} {rest : List Oper} (hw : Region.wanted o (yielded ops a.tmps) = false) (h2 : wpQuiet P ops C Q rest (a.put o.dst undef)) : wpQuiet P ops C Q (o :: rest) a := by
  unfold wpQuiet
  rw [if_neg (by rw [hw]; decide)]
  exact h2
end Go.Proofs.Ytephhendkmhggaa

/- SexprTells: which expressions may be, their depth, their text; for expressions of at most 1048576 parts and letters in all. -/
namespace Go.Proofs.Ytephhendkmhggaa
open Go.RowKit

theorem byts_inj {s t : ByteArray} (h : byts s = byts t) : s = t := by
  rw [← Lib.mk_data s, ← Lib.mk_data t]
  show (⟨(byts s).toArray⟩ : ByteArray) = ⟨(byts t).toArray⟩
  rw [h]
def ofByts (l : List UInt8) : ByteArray := ⟨l.toArray⟩
theorem byts_of (l : List UInt8) : byts (ofByts l) = l := by simp [byts, ofByts]
theorem of_byts {s : ByteArray} {l : List UInt8} (h : byts s = l) : s = ofByts l := byts_inj (h.trans (byts_of l).symm)
/-- Text: the value. -/
theorem text_val (x : Sx) (hx : x.mass ≤ 4000) (w : World) (v : Value) (hl : Lies (fun _ => True) w v x) :
    Calls Try.prog 15 #[v] w fun e w' => e = .returned (.tuple #[.string (ofByts (textL x).1), .int .i64 (textL x).2]) ∧ Below w.heap.size w w' := by
  have := depth_mass x
  have := print_mass x
  refine (text_ok x (fits_mass x (by omega)) (by omega) (by omega) w v hl).mono ?_
  rintro e w' ⟨⟨q, c, rfl, hq⟩, hb⟩
  rw [← hq]
  exact ⟨by rw [← of_byts rfl], hb⟩
theorem rtext_val (x : Sx) (hx : x.mass ≤ 4000) (w : World) (v : Value) (hl : Lies (fun _ => True) w v x) :
    Calls Try.prog 16 #[v] w fun e w' => e = .returned (.tuple #[.string (ofByts (textL x).1), .int .i64 (textL x).2]) ∧ Below w.heap.size w w' := by
  have := depth_mass x
  have := print_mass x
  refine (rtext3_ok x (fits_mass x (by omega)) (by omega) (by omega) w v hl).mono ?_
  rintro e w' ⟨⟨q, c, rfl, hq⟩, hb⟩
  rw [← hq]
  exact ⟨by rw [← of_byts rfl], hb⟩
theorem head_val (x : Sx) (w : World) (v : Value) (hl : Lies (fun _ => True) w v x) :
    Calls Try.prog 22 #[v] w fun e w' => e = .returned (.string (ofByts x.head)) ∧ Below w.heap.size w w' := by
  refine (headx_ok x w v hl).mono ?_
  rintro e w' ⟨⟨q, rfl, hq⟩, hb⟩
  exact ⟨by rw [of_byts hq], hb⟩
theorem rhead_val (x : Sx) (w : World) (v : Value) (hl : Lies (fun _ => True) w v x) :
    Calls Try.prog 23 #[v] w fun e w' => e = .returned (.string (ofByts x.head)) ∧ Below w.heap.size w w' := by
  refine (rheadx_ok x w v hl).mono ?_
  rintro e w' ⟨⟨q, rfl, hq⟩, hb⟩
  exact ⟨by rw [of_byts hq], hb⟩

/-- Two expressions that came in, boxed. -/
structure Two (w : World) (a b : C3) (x y : Sx) (w0 : World) : Prop where
  eq : (w.alloc (.cells #[.int .i8 a.k, .string a.t, .slice a.A a.n a.c] 26)).alloc (.cells #[.int .i8 b.k, .string b.t, .slice b.A b.n b.c] 26) = w0
  below : Below w.heap.size w w0
  at_ : ∀ w1, Below w0.heap.size w0 w1 → w1.cell? ⟨w.heap.size, 0, none⟩ = some (.int .i8 a.k) ∧ w1.cell? ⟨w.heap.size, 1, none⟩ = some (.string a.t) ∧ w1.cell? ⟨w.heap.size, 2, none⟩ = some (.slice a.A a.n a.c) ∧ w1.cell? ⟨w.heap.size + 1, 0, none⟩ = some (.int .i8 b.k) ∧ w1.cell? ⟨w.heap.size + 1, 1, none⟩ = some (.string b.t) ∧ w1.cell? ⟨w.heap.size + 1, 2, none⟩ = some (.slice b.A b.n b.c)
  fst : ∀ w1, Below w0.heap.size w0 w1 → Lies (fun _ => True) w1 a.val x
  snd : ∀ w1, Below w0.heap.size w0 w1 → Lies (fun _ => True) w1 b.val y
theorem two_mk (w : World) (a b : C3) (x y : Sx) (hx : Lies (fun _ => True) w a.val x) (hy : Lies (fun _ => True) w b.val y) : ∃ w0, Two w a b x y w0 := by
  obtain ⟨w1, e1⟩ : ∃ w1, w.alloc (.cells #[.int .i8 a.k, .string a.t, .slice a.A a.n a.c] 26) = w1 := ⟨_, rfl⟩
  obtain ⟨w2, e2⟩ : ∃ w2, w1.alloc (.cells #[.int .i8 b.k, .string b.t, .slice b.A b.n b.c] 26) = w2 := ⟨_, rfl⟩
  have hs : w1.heap.size = w.heap.size + 1 := by rw [← e1]; simp
  have b1 : Blk w1 w.heap.size 26 #[.int .i8 a.k, .string a.t, .slice a.A a.n a.c] := e1 ▸ Blk.new w _ _
  have b1' : Blk w2 w.heap.size 26 #[.int .i8 a.k, .string a.t, .slice a.A a.n a.c] := e2 ▸ b1.alloc _
  have b2 : Blk w2 (w.heap.size + 1) 26 #[.int .i8 b.k, .string b.t, .slice b.A b.n b.c] := by rw [← hs, ← e2]; exact Blk.new w1 _ _
  have hb : Below w.heap.size w w2 := e2 ▸ (e1 ▸ (Below.refl _ w).alloc (Nat.le_refl _) _ : Below w.heap.size w w1).alloc (by omega) _
  refine ⟨w2, by rw [e1, e2], hb, fun w3 h3 => ?_, fun w3 h3 => (hx.keep hb).keep h3, fun w3 h3 => (hy.keep hb).keep h3⟩
  have c1 := b1'.below h3 b1'.lt
  have c2 := b2.below h3 b2.lt
  exact ⟨c1.cell 0, c1.cell 1, c1.cell 2, c2.cell 0, c2.cell 1, c2.cell 2⟩

set_option maxHeartbeats 4000000 in
set_option maxRecDepth 100000 in
theorem tells_great (x y : Sx) (hx : x.mass ≤ 2000000) (hy : y.mass ≤ 2000000) (hg : x.great = true ∨ x.great = false ∧ y.great = true) (w : World) (a b : C3) (hlx : Lies (fun _ => True) w a.val x) (hly : Lies (fun _ => True) w b.val y) :
    Calls Try.prog 4 #[a.val, b.val] w fun e w' => e = .returned (.bool true) ∧ Below w.heap.size w w' := by
  obtain ⟨w0, h0⟩ := two_mk w a b x y hlx hly
  have e0 := h0.eq
  have HT := Lib.hid h0
  have HGX := Lib.hid (fun w1 h1 => great3_ok x hx a.val w1 (h0.fst w1 h1))
  have HGY := Lib.hid (fun w1 h1 => great3_ok y hy b.val w1 (h0.snd w1 h1))
  clear h0 hlx hly
  obtain ⟨j1, j2, j3, j4, j5, j6⟩ := HT.out.at_ w0 (Below.refl _ _)
  unfold C3.val at HGX HGY ⊢
  subst e0
  rcases hg with hg | ⟨hg, hg'⟩
  · rw [hg] at HGX
    go_enter Try.func4, Try.ntmps4
    go_wp2_with (first
      | (go_at_call 14; refine (HGX.out _ (Below.refl _ _)).mono ?_; rintro e w1 ⟨rfl, hb1⟩)
      | (go_at_call 8; refine (wakes_ok _).mono ?_; rintro e w2 ⟨rfl, hb2⟩))
    go_ret
    exact ⟨rfl, below_then (HT.out.below.trans (hb1.mono HT.out.below.size)) (Nat.le_refl _) hb2⟩
  · rw [hg] at HGX
    rw [hg'] at HGY
    go_enter Try.func4, Try.ntmps4
    go_wp2_with (first
      | (go_at_call 14; (with_reducible refine (HGX.out _ (Below.refl _ _)).mono ?_); rintro e w1 ⟨rfl, hb1⟩; obtain ⟨k1, k2, k3, k4, k5, k6⟩ := HT.out.at_ w1 hb1)
      | (go_at_call 14; (with_reducible refine (HGY.out _ hb1).mono ?_); rintro e w2 ⟨rfl, hb2⟩)
      | (go_at_call 8; refine (wakes_ok _).mono ?_; rintro e w3 ⟨rfl, hb3⟩))
    go_ret
    exact ⟨rfl, below_then (below_then (HT.out.below.trans (hb1.mono HT.out.below.size)) (Nat.le_refl _) hb2) (Nat.le_refl _) hb3⟩

set_option maxHeartbeats 4000000 in
set_option maxRecDepth 100000 in
theorem tells_in (x y : Sx) (hg : x.great = false) (hg' : y.great = false) (hx : x.mass ≤ 2000000) (hy : y.mass ≤ 2000000) (w : World) (a b : C3) (hlx : Lies (fun _ => True) w a.val x) (hly : Lies (fun _ => True) w b.val y) :
    Calls Try.prog 4 #[a.val, b.val] w fun e w' => e = .returned (.bool true) ∧ Below w.heap.size w w' := by
  obtain ⟨w0, h0⟩ := two_mk w a b x y hlx hly
  have e0 := h0.eq
  have hm := great_mass hg
  have hd := depth_mass x
  have HT := Lib.hid h0
  have HKP := Lib.hid h0.at_
  have HGX := Lib.hid (fun w1 h1 => great3_ok x hx a.val w1 (h0.fst w1 h1))
  have HGY := Lib.hid (fun w1 h1 => great3_ok y hy b.val w1 (h0.snd w1 h1))
  have HX := Lib.hid (fun w1 h1 => text_val x hm.1 w1 a.val (h0.fst w1 h1))
  have HX2 := Lib.hid (fun w1 h1 => rtext_val x hm.1 w1 a.val (h0.fst w1 h1))
  have HM := Lib.hid (fun w1 h1 => may_ok x (fits_mass x (by omega)) (by omega) w1 a.val (h0.fst w1 h1))
  have HM2 := Lib.hid (fun w1 h1 => rmay3_ok x (fits_mass x (by omega)) (by omega) w1 a.val (h0.fst w1 h1))
  have HD := Lib.hid (fun w1 h1 => depth_ok x (by omega) a.val w1 (h0.fst w1 h1))
  have HD2 := Lib.hid (fun w1 h1 => rdepth_ok x (by omega) a.val w1 (h0.fst w1 h1))
  have HS := Lib.hid (fun w1 h1 => same_at x y a.val b.val w1 (h0.fst w1 h1) (h0.snd w1 h1))
  have HS2 := Lib.hid (fun w1 h1 => rsame_at x y a.val b.val w1 (h0.fst w1 h1) (h0.snd w1 h1))
  have HH := Lib.hid (fun w1 h1 => head_val x w1 a.val (h0.fst w1 h1))
  have HH2 := Lib.hid (fun w1 h1 => rhead_val x w1 a.val (h0.fst w1 h1))
  have HW := Lib.hid wakes_ok
  have HB0 := Lib.hid h0.below
  rw [hg] at HGX
  rw [hg'] at HGY
  obtain ⟨tx, htx⟩ : ∃ s, ofByts (textL x).1 = s := ⟨_, rfl⟩
  obtain ⟨tc, htc⟩ : ∃ s, (textL x).2 = s := ⟨_, rfl⟩
  obtain ⟨mx, hmx⟩ : ∃ s, x.may = s := ⟨_, rfl⟩
  obtain ⟨dx, hdx⟩ : ∃ s, x.depth = s := ⟨_, rfl⟩
  obtain ⟨sm, hsm⟩ : ∃ s, x.same y = s := ⟨_, rfl⟩
  obtain ⟨hv, hhx⟩ : ∃ s, ofByts x.head = s := ⟨_, rfl⟩
  rw [htx, htc] at HX HX2
  rw [hmx] at HM HM2
  rw [hdx] at HD HD2
  rw [hsm] at HS HS2
  rw [hhx] at HH HH2
  clear htx htc hmx hdx hsm hhx hm hd hx hy hg hg' h0 hlx hly
  -- letters
  obtain ⟨j1, j2, j3, j4, j5, j6⟩ := HKP.out w0 (Below.refl _ _)
  unfold C3.val at HGX HGY HX HX2 HM HM2 HD HD2 HS HS2 HH HH2 ⊢
  go_enter Try.func4, Try.ntmps4
  go_wp2_with (first
    | (go_at_call 14; (with_reducible refine (HGX.out _ (Below.refl _ _)).mono ?_); rintro e w1 ⟨rfl, hb1⟩; obtain ⟨k1, k2, k3, k4, k5, k6⟩ := HKP.out w1 hb1)
    | (go_at_call 14; (with_reducible refine (HGY.out _ hb1).mono ?_); rintro e w2 ⟨rfl, hb2⟩; have hc2 := hb1.trans (hb2.mono hb1.size); obtain ⟨l1, l2, l3, l4, l5, l6⟩ := HKP.out w2 hc2)
    | (go_at_call 15; refine (HX.out _ hc2).mono ?_; rintro e w3 ⟨rfl, hb3⟩; have hc3 := hc2.trans (hb3.mono hc2.size); obtain ⟨m1, m2, m3, m4, m5, m6⟩ := HKP.out w3 hc3)
    | (go_at_call 16; refine (HX2.out _ hc3).mono ?_; rintro e w4 ⟨rfl, hb4⟩; have hc4 := hc3.trans (hb4.mono hc3.size)))
  refine wp_region_quiet (C := fun w' => Below w0.heap.size w0 w') (by kernel_rfl) (by kernel_rfl) (hc4.drew) ?_
  rw [List.toList_toArray]
  refine wpQuiet_want rfl ?_ (fun w' hw' => ?_) ?_
  rotate_left
  · unfold Oper.quietAt
    go_simp
    exact rfl
  simp only [Act.put, List.setIfInBounds_toArray, List.set_cons_succ, List.set_cons_zero]
  refine wpQuiet_want rfl ?_ (fun w' hw' => ?_) ?_
  rotate_left
  · unfold Oper.quietAt
    go_simp
    exact rfl
  simp only [Act.put, List.setIfInBounds_toArray, List.set_cons_succ, List.set_cons_zero]
  refine wpQuiet_want rfl (.bool true) (fun w' hw' => ?_) ?_
  · unfold Oper.quietAt
    go_simp
  simp only [Act.put, List.setIfInBounds_toArray, List.set_cons_succ, List.set_cons_zero]
  refine wpQuiet_want rfl ?_ (fun w' hw' => ?_) ?_
  rotate_left
  · unfold Oper.quietAt
    go_simp
    exact rfl
  simp only [Act.put, List.setIfInBounds_toArray, List.set_cons_succ, List.set_cons_zero]
  refine wpQuiet_want rfl ?_ (fun w' hw' => ?_) ?_
  rotate_left
  · unfold Oper.quietAt
    go_simp
    exact rfl
  simp only [Act.put, List.setIfInBounds_toArray, List.set_cons_succ, List.set_cons_zero]
  refine wpQuiet_want rfl ?_ (fun w' hw' => ?_) ?_
  rotate_left
  · unfold Oper.quietAt
    go_simp
    exact rfl
  simp only [Act.put, List.setIfInBounds_toArray, List.set_cons_succ, List.set_cons_zero]
  refine wpQuiet_want rfl (.bool true) (fun w' hw' => ?_) ?_
  · unfold Oper.quietAt
    go_simp
  simp only [Act.put, List.setIfInBounds_toArray, List.set_cons_succ, List.set_cons_zero]
  refine wpQuiet_want rfl ?_ (fun w' hw' => ?_) ?_
  rotate_left
  · unfold Oper.quietAt
    go_simp
    exact rfl
  simp only [Act.put, List.setIfInBounds_toArray, List.set_cons_succ, List.set_cons_zero]
  refine wpQuiet_want rfl ?_ (fun w' hw' => ?_) ?_
  rotate_left
  · unfold Oper.quietAt
    go_simp
    exact rfl
  simp only [Act.put, List.setIfInBounds_toArray, List.set_cons_succ, List.set_cons_zero]
  refine wpQuiet_want rfl ?_ (fun w' hw' => ?_) ?_
  rotate_left
  · obtain ⟨j1, j2, j3, j4, j5, j6⟩ := HKP.out w' hw'
    unfold Oper.quietAt
    go_simp
    exact rfl
  simp only [Act.put, List.setIfInBounds_toArray, List.set_cons_succ, List.set_cons_zero]
  refine wpQuiet_want rfl (.bool mx) (fun w' hw' => ?_) ?_
  · unfold Oper.quietAt
    go_simp
    refine (HM.out w' hw').mono ?_
    rintro e w2 ⟨rfl, hb⟩
    have hz := hw'.trans (hb.mono hw'.size)
    exact ⟨rfl, by simpa using hz⟩
  simp only [Act.put, List.setIfInBounds_toArray, List.set_cons_succ, List.set_cons_zero]
  refine wpQuiet_want rfl ?_ (fun w' hw' => ?_) ?_
  rotate_left
  · obtain ⟨j1, j2, j3, j4, j5, j6⟩ := HKP.out w' hw'
    unfold Oper.quietAt
    go_simp
    exact rfl
  simp only [Act.put, List.setIfInBounds_toArray, List.set_cons_succ, List.set_cons_zero]
  refine wpQuiet_want rfl (.bool mx) (fun w' hw' => ?_) ?_
  · unfold Oper.quietAt
    go_simp
    refine (HM2.out w' hw').mono ?_
    rintro e w2 ⟨rfl, hb⟩
    have hz := hw'.trans (hb.mono hw'.size)
    exact ⟨rfl, by simpa using hz⟩
  simp only [Act.put, List.setIfInBounds_toArray, List.set_cons_succ, List.set_cons_zero]
  refine wpQuiet_want rfl (.bool true) (fun w' hw' => ?_) ?_
  · unfold Oper.quietAt
    go_simp
  simp only [Act.put, List.setIfInBounds_toArray, List.set_cons_succ, List.set_cons_zero]
  refine wpQuiet_want rfl ?_ (fun w' hw' => ?_) ?_
  rotate_left
  · unfold Oper.quietAt
    go_simp
    exact rfl
  simp only [Act.put, List.setIfInBounds_toArray, List.set_cons_succ, List.set_cons_zero]
  refine wpQuiet_want rfl ?_ (fun w' hw' => ?_) ?_
  rotate_left
  · unfold Oper.quietAt
    go_simp
    exact rfl
  simp only [Act.put, List.setIfInBounds_toArray, List.set_cons_succ, List.set_cons_zero]
  refine wpQuiet_want rfl ?_ (fun w' hw' => ?_) ?_
  rotate_left
  · obtain ⟨j1, j2, j3, j4, j5, j6⟩ := HKP.out w' hw'
    unfold Oper.quietAt
    go_simp
    exact rfl
  simp only [Act.put, List.setIfInBounds_toArray, List.set_cons_succ, List.set_cons_zero]
  refine wpQuiet_want rfl (.int .i64 dx) (fun w' hw' => ?_) ?_
  · unfold Oper.quietAt
    go_simp
    refine (HD.out w' hw').mono ?_
    rintro e w2 ⟨rfl, hb⟩
    have hz := hw'.trans (hb.mono hw'.size)
    exact ⟨rfl, by simpa using hz⟩
  simp only [Act.put, List.setIfInBounds_toArray, List.set_cons_succ, List.set_cons_zero]
  refine wpQuiet_want rfl ?_ (fun w' hw' => ?_) ?_
  rotate_left
  · obtain ⟨j1, j2, j3, j4, j5, j6⟩ := HKP.out w' hw'
    unfold Oper.quietAt
    go_simp
    exact rfl
  simp only [Act.put, List.setIfInBounds_toArray, List.set_cons_succ, List.set_cons_zero]
  refine wpQuiet_want rfl (.int .i64 dx) (fun w' hw' => ?_) ?_
  · unfold Oper.quietAt
    go_simp
    refine (HD2.out w' hw').mono ?_
    rintro e w2 ⟨rfl, hb⟩
    have hz := hw'.trans (hb.mono hw'.size)
    exact ⟨rfl, by simpa using hz⟩
  simp only [Act.put, List.setIfInBounds_toArray, List.set_cons_succ, List.set_cons_zero]
  refine wpQuiet_want rfl (.bool true) (fun w' hw' => ?_) ?_
  · unfold Oper.quietAt
    go_simp
  simp only [Act.put, List.setIfInBounds_toArray, List.set_cons_succ, List.set_cons_zero]
  refine wpQuiet_want rfl ?_ (fun w' hw' => ?_) ?_
  rotate_left
  · unfold Oper.quietAt
    go_simp
    exact rfl
  simp only [Act.put, List.setIfInBounds_toArray, List.set_cons_succ, List.set_cons_zero]
  refine wpQuiet_want rfl ?_ (fun w' hw' => ?_) ?_
  rotate_left
  · unfold Oper.quietAt
    go_simp
    exact rfl
  simp only [Act.put, List.setIfInBounds_toArray, List.set_cons_succ, List.set_cons_zero]
  refine wpQuiet_want rfl ?_ (fun w' hw' => ?_) ?_
  rotate_left
  · obtain ⟨j1, j2, j3, j4, j5, j6⟩ := HKP.out w' hw'
    unfold Oper.quietAt
    go_simp
    exact rfl
  simp only [Act.put, List.setIfInBounds_toArray, List.set_cons_succ, List.set_cons_zero]
  refine wpQuiet_want rfl ?_ (fun w' hw' => ?_) ?_
  rotate_left
  · obtain ⟨j1, j2, j3, j4, j5, j6⟩ := HKP.out w' hw'
    unfold Oper.quietAt
    go_simp
    exact rfl
  simp only [Act.put, List.setIfInBounds_toArray, List.set_cons_succ, List.set_cons_zero]
  refine wpQuiet_want rfl (.bool sm) (fun w' hw' => ?_) ?_
  · unfold Oper.quietAt
    go_simp
    refine (HS.out w' hw').mono ?_
    rintro e w2 ⟨rfl, hb⟩
    have hz := hw'.trans (hb.mono hw'.size)
    exact ⟨rfl, by simpa using hz⟩
  simp only [Act.put, List.setIfInBounds_toArray, List.set_cons_succ, List.set_cons_zero]
  refine wpQuiet_want rfl ?_ (fun w' hw' => ?_) ?_
  rotate_left
  · obtain ⟨j1, j2, j3, j4, j5, j6⟩ := HKP.out w' hw'
    unfold Oper.quietAt
    go_simp
    exact rfl
  simp only [Act.put, List.setIfInBounds_toArray, List.set_cons_succ, List.set_cons_zero]
  refine wpQuiet_want rfl ?_ (fun w' hw' => ?_) ?_
  rotate_left
  · obtain ⟨j1, j2, j3, j4, j5, j6⟩ := HKP.out w' hw'
    unfold Oper.quietAt
    go_simp
    exact rfl
  simp only [Act.put, List.setIfInBounds_toArray, List.set_cons_succ, List.set_cons_zero]
  refine wpQuiet_want rfl (.bool sm) (fun w' hw' => ?_) ?_
  · unfold Oper.quietAt
    go_simp
    refine (HS2.out w' hw').mono ?_
    rintro e w2 ⟨rfl, hb⟩
    have hz := hw'.trans (hb.mono hw'.size)
    exact ⟨rfl, by simpa using hz⟩
  simp only [Act.put, List.setIfInBounds_toArray, List.set_cons_succ, List.set_cons_zero]
  refine wpQuiet_want rfl (.bool true) (fun w' hw' => ?_) ?_
  · unfold Oper.quietAt
    go_simp
  simp only [Act.put, List.setIfInBounds_toArray, List.set_cons_succ, List.set_cons_zero]
  refine wpQuiet_want rfl ?_ (fun w' hw' => ?_) ?_
  rotate_left
  · unfold Oper.quietAt
    go_simp
    exact rfl
  simp only [Act.put, List.setIfInBounds_toArray, List.set_cons_succ, List.set_cons_zero]
  refine wpQuiet_want rfl ?_ (fun w' hw' => ?_) ?_
  rotate_left
  · unfold Oper.quietAt
    go_simp
    exact rfl
  simp only [Act.put, List.setIfInBounds_toArray, List.set_cons_succ, List.set_cons_zero]
  refine wpQuiet_want rfl ?_ (fun w' hw' => ?_) ?_
  rotate_left
  · obtain ⟨j1, j2, j3, j4, j5, j6⟩ := HKP.out w' hw'
    unfold Oper.quietAt
    go_simp
    exact rfl
  simp only [Act.put, List.setIfInBounds_toArray, List.set_cons_succ, List.set_cons_zero]
  refine wpQuiet_want rfl (.string hv) (fun w' hw' => ?_) ?_
  · unfold Oper.quietAt
    go_simp
    refine (HH.out w' hw').mono ?_
    rintro e w2 ⟨rfl, hb⟩
    have hz := hw'.trans (hb.mono hw'.size)
    exact ⟨rfl, by simpa using hz⟩
  simp only [Act.put, List.setIfInBounds_toArray, List.set_cons_succ, List.set_cons_zero]
  refine wpQuiet_want rfl ?_ (fun w' hw' => ?_) ?_
  rotate_left
  · obtain ⟨j1, j2, j3, j4, j5, j6⟩ := HKP.out w' hw'
    unfold Oper.quietAt
    go_simp
    exact rfl
  simp only [Act.put, List.setIfInBounds_toArray, List.set_cons_succ, List.set_cons_zero]
  refine wpQuiet_want rfl (.string hv) (fun w' hw' => ?_) ?_
  · unfold Oper.quietAt
    go_simp
    refine (HH2.out w' hw').mono ?_
    rintro e w2 ⟨rfl, hb⟩
    have hz := hw'.trans (hb.mono hw'.size)
    exact ⟨rfl, by simpa using hz⟩
  simp only [Act.put, List.setIfInBounds_toArray, List.set_cons_succ, List.set_cons_zero]
  refine wpQuiet_want rfl (.bool true) (fun w' hw' => ?_) ?_
  · unfold Oper.quietAt
    go_simp
  simp only [Act.put, List.setIfInBounds_toArray, List.set_cons_succ, List.set_cons_zero]
  refine wpQuiet_want rfl ?_ (fun w' hw' => ?_) ?_
  rotate_left
  · unfold Oper.quietAt
    go_simp
    exact rfl
  simp only [Act.put, List.setIfInBounds_toArray, List.set_cons_succ, List.set_cons_zero]
  refine wpQuiet_want rfl ?_ (fun w' hw' => ?_) ?_
  rotate_left
  · unfold Oper.quietAt
    go_simp
    exact rfl
  simp only [Act.put, List.setIfInBounds_toArray, List.set_cons_succ, List.set_cons_zero]
  refine wpQuiet_want rfl (.bool true) (fun w' hw' => ?_) ?_
  · unfold Oper.quietAt
    go_simp
    refine (HW.out w').mono ?_
    rintro e w2 ⟨rfl, hb⟩
    have hz := hw'.trans (hb.mono hw'.size)
    exact ⟨rfl, by simpa using hz⟩
  simp only [Act.put, List.setIfInBounds_toArray, List.set_cons_succ, List.set_cons_zero]
  refine wpQuiet_want rfl ?_ (fun w' hw' => ?_) ?_
  rotate_left
  · unfold Oper.quietAt
    go_simp
    exact rfl
  simp only [Act.put, List.setIfInBounds_toArray, List.set_cons_succ, List.set_cons_zero]
  refine wpQuiet_want rfl ?_ (fun w' hw' => ?_) ?_
  rotate_left
  · unfold Oper.quietAt
    go_simp
    exact rfl
  simp only [Act.put, List.setIfInBounds_toArray, List.set_cons_succ, List.set_cons_zero]
  refine wpQuiet_nil ?_
  intro w6 hb7
  go_wp2
  go_ret
  exact ⟨rfl, HB0.out.trans (hb7.mono HB0.out.size)⟩

theorem sexprTells_walk (x : Sx) (a : C3) (y : Sx) (b : C3) (w : World) (hlx : Lies (fun _ => True) w a.val x) (hx : x.mass ≤ 2000000) (hly : Lies (fun _ => True) w b.val y) (hy : y.mass ≤ 2000000) :
    Calls Try.prog 4 #[a.val, b.val] w fun e w' => e = .returned (.bool true) ∧ Below w.heap.size w w' := by
  cases hg : x.great with
  | true => exact tells_great x y hx hy (.inl hg) w a b hlx hly
  | false =>
    cases hg' : y.great with
    | true => exact tells_great x y hx hy (.inr ⟨hg, hg'⟩) w a b hlx hly
    | false => exact tells_in x y hg hg' hx hy w a b hlx hly
end Go.Proofs.Ytephhendkmhggaa

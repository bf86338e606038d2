/- How long a proof's text is; what is not too great. -/
import Derived.Test.YtiklliiamljogaaGreatDoorPfO
import Derived.Test.YtiklliiamljogaaGreatDoorRows
import Derived.WalkKit
import Derived.ProofKit
import Derived.OpenShut
import Derived.ShutString
import Derived.ChangeOld
import Derived.Below
import Derived.ChangeSlices
import Derived.Deep.Grids
import Derived.Test.YtiklliiamljogaaGreatDoorMass
import Derived.Deep.Fields
import Derived.Lib.LaidTab
namespace Go.Proofs.YtiklliiamljogaaGreatDoor
open Go.RowKit Go.Lib

theorem rawt_le {d : Nat} : ∀ {l : List Sx}, (∀ x ∈ l, x.raw.length ≤ d) → (Sx.rawt l).length ≤ l.length * (d + 1)
  | [], _ => by rw [Sx.rawt]; exact Nat.zero_le _
  | x :: r, h => by
    have h1 := h x (by simp)
    have h2 := rawt_le (l := r) fun y hy => h y (by simp [hy])
    rw [Sx.rawt, List.length_cons, List.length_append, List.length_cons, Nat.add_mul]
    omega
theorem rawt_append : ∀ (l m : List Sx), Sx.rawt (l ++ m) = Sx.rawt l ++ Sx.rawt m
  | [], m => by rw [Sx.rawt]; rfl
  | x :: r, m => by
    show Sx.rawt (x :: (r ++ m)) = _
    rw [Sx.rawt, Sx.rawt, rawt_append r m, List.cons_append, List.append_assoc]
theorem raws_rawt (l : List Sx) : (Sx.raws l).length ≤ (Sx.rawt l).length := by
  cases l with
  | nil => rw [Sx.raws, Sx.rawt]; exact Nat.le_refl _
  | cons x r => rw [Sx.raws, Sx.rawt, List.length_cons]; omega
theorem num_raw {n : Int} (h : fitN n = true) : (numS n).raw.length ≤ 10 := by
  have h1 := (fit_iff n).1 h
  unfold numS
  rw [Sx.raw, if_neg (by decide)]
  exact itoa_len h1.1 h1.2
theorem head_raw (k : Int) : (symS (headK k)).raw.length ≤ 5 := by
  unfold symS
  rw [Sx.raw, if_neg (by decide)]
  unfold headK
  repeat' split
  all_goals decide
theorem step_raw {s : Stp} (h : s.may = true) : s.sx.raw.length ≤ 32 + 11 * s.l.length := by
  obtain ⟨_, _, _, _, _, hl, _⟩ := (may_iff s).1 h
  have hh := head_raw s.k
  have hn : (Sx.rawt (s.nums.map numS)).length ≤ 22 := by
    have h1 := rawt_le (d := 10) (l := s.nums.map numS) fun x hx => by
      obtain ⟨n, hn, rfl⟩ := List.mem_map.1 hx
      exact num_raw (nums_fit h n hn)
    have h2 : s.nums.length ≤ 2 := by unfold Stp.nums; rw [List.length_take]; simp; omega
    rw [List.length_map] at h1
    omega
  have hb : (Sx.raws (s.l.map numS)).length ≤ 11 * s.l.length := by
    have h1 := rawt_le (d := 10) (l := s.l.map numS) fun x hx => by
      obtain ⟨n, hn, rfl⟩ := List.mem_map.1 hx
      exact num_raw (List.all_eq_true.1 hl n hn)
    have h2 := raws_rawt (s.l.map numS)
    rw [List.length_map] at h1
    omega
  unfold Stp.sx
  rw [Sx.raw, if_pos rfl, Sx.raws, rawt_append, Sx.rawt, Sx.rawt, Sx.raw, if_pos rfl]
  simp only [List.length_cons, List.length_append, List.length_nil]
  omega
theorem steps_raw : ∀ {l : List Stp}, (∀ s ∈ l, s.may = true) → (∀ s ∈ l, s.l.length ≤ 9000) → (Sx.rawt (l.map Stp.sx)).length ≤ 33 * gsum l
  | [], _, _ => by rw [List.map_nil, Sx.rawt]; exact Nat.zero_le _
  | s :: r, h, h9 => by
    have h1 := step_raw (h s (by simp))
    have h2 := steps_raw (l := r) (fun y hy => h y (by simp [hy])) (fun y hy => h9 y (by simp [hy]))
    have h3 := h9 s (by simp)
    unfold gsum at h2 ⊢
    rw [List.map_cons, Sx.rawt, List.map_cons, List.sum_cons, List.length_cons, List.length_append]
    omega
theorem gsum_mem : ∀ {l : List Stp} {s : Stp}, s ∈ l → 1 + min s.l.length 9000 ≤ gsum l
  | x :: r, s, h => by
    unfold gsum
    rw [List.map_cons, List.sum_cons]
    rcases List.mem_cons.1 h with rfl | h
    · omega
    · have := gsum_mem h
      unfold gsum at this
      omega
/-- What is not too great. -/
structure NotGreat (L : List Stp) : Prop where
  len : L.length ≤ 5000
  sum : gsum L ≤ 9000
  lits : ∀ s ∈ L, s.l.length ≤ 8999
  raw : L.all Stp.may = true → (proofX L).raw.length ≤ 400000
theorem not_great {L : List Stp} (h : greatM L = false) : NotGreat L := by
  unfold greatM at h
  rw [Bool.or_eq_false_iff] at h
  have h1 : L.length ≤ 5000 := by have := of_decide_eq_false h.1; omega
  have h2 : gsum L ≤ 9000 := by
    have := of_decide_eq_false h.2
    rw [List.take_of_length_le (by omega)] at this
    omega
  have h3 : ∀ s ∈ L, s.l.length ≤ 8999 := fun s hs => by have := gsum_mem hs; omega
  refine ⟨h1, h2, h3, fun hm => ?_⟩
  have h4 := steps_raw (l := L) (fun s hs => List.all_eq_true.1 hm s hs) (fun s hs => by have := h3 s hs; omega)
  unfold proofX
  rw [Sx.raw, if_pos rfl, Sx.raws]
  unfold symS
  rw [Sx.raw, if_neg (by decide)]
  simp only [List.length_cons, List.length_append, List.length_nil]
  have : wProof.length = 5 := rfl
  omega
theorem NotGreat.fine {L : List Stp} (h : NotGreat L) (hk : ∀ s ∈ L, -128 ≤ s.k ∧ s.k ≤ 127) : Fine L := ⟨by have := h.len; omega, fun s hs => by have := h.lits s hs; omega, hk⟩
end Go.Proofs.YtiklliiamljogaaGreatDoor

/- Readings of arguments, opened. -/
namespace Go.Proofs.YtiklliiamljogaaGreatDoor
open Go.ChangeShapes Go.WideShapes Go.ChangeAt Go.RowKit

/-- What a walk is told of a slice of integers that came in: it is nil; or it leads to a row of 'cap' cells, the numbers 'zs' (the first 'len' are its elements, the rest its spare room), each fitting its kind. -/
def IsRow (k : IntKind) (w : World) (a : Option Addr) (len cap : Nat) (zs : List Int) : Prop :=
  (a = none ∧ len = 0 ∧ cap = 0 ∧ zs = []) ∨
  ∃ x, a = some x ∧ len ≤ cap ∧ cap ≤ maxLen ∧ zs.length = cap ∧ (∀ i, i < zs.length → w.cell? (x.add i) = some (.int k (zs.getD i 0))) ∧ ∀ n ∈ zs, (Lit.int k n).wf = true

theorem isRow_of {H : Type} {enc : TypeId × Value → H} {P : Program} {W : World} {b : Nat} {hd : Bool} {t e : TypeId} {k : IntKind} {a : Option Addr} {len cap : Nat} {d : DataW H} {p : List MemPlace}
    (ht : P.underlying t = some (.slice e)) (he : P.underlying e = some (.int k)) (hc : P.cellsOf e = 1) (h : DataW.Trod enc P W b (fun _ => true) hd t (.slice a len cap) d p) : ∃ zs, IsRow k W a len cap zs := by
  obtain ⟨fuel, hf⟩ := h
  rcases open_ints ht he hc hf with ⟨hcs, _⟩ | ⟨x, l, c, zs, hcs, _, hl, hm, hz, _, hcell, hwz⟩
  · simp [Value.cells] at hcs
    obtain ⟨rfl, rfl, rfl⟩ := hcs
    exact ⟨[], .inl ⟨rfl, rfl, rfl, rfl⟩⟩
  · simp [Value.cells] at hcs
    obtain ⟨rfl, rfl, rfl⟩ := hcs
    exact ⟨zs, .inr ⟨_, rfl, hl, hm, by simpa using hz, hcell, hwz⟩⟩
/-- A slice of bools that came in. -/
def IsBools (w : World) (a : Option Addr) (len cap : Nat) (B : Nat → Bool) : Prop :=
  (a = none ∧ len = 0 ∧ cap = 0) ∨ ∃ x, a = some x ∧ len ≤ cap ∧ cap ≤ maxLen ∧ ∀ i, i < cap → w.cell? (x.add i) = some (.bool (B i))

theorem isBools_of {H : Type} {enc : TypeId × Value → H} {P : Program} {W : World} {b : Nat} {hd : Bool} {t e : TypeId} {a : Option Addr} {len cap : Nat} {d : DataW H} {p : List MemPlace}
    (ht : P.underlying t = some (.slice e)) (he : P.underlying e = some .bool) (hc : P.cellsOf e = 1) (h : DataW.Trod enc P W b (fun _ => true) hd t (.slice a len cap) d p) : ∃ B, IsBools W a len cap B := by
  obtain ⟨fuel, hf⟩ := h
  rcases Go.Deep.open_bools ht he hc hf with ⟨hcs, _⟩ | ⟨x, l, c, B, hcs, _, hl, hm, _, hcell⟩
  · simp [Value.cells] at hcs
    obtain ⟨rfl, rfl, rfl⟩ := hcs
    exact ⟨fun _ => false, .inl ⟨rfl, rfl, rfl⟩⟩
  · simp [Value.cells] at hcs
    obtain ⟨rfl, rfl, rfl⟩ := hcs
    exact ⟨B, .inr ⟨_, rfl, hl, hm, hcell⟩⟩
end Go.Proofs.YtiklliiamljogaaGreatDoor

/- An expression that came in. -/
namespace Go.Proofs.YtiklliiamljogaaGreatDoor
open Go.ChangeShapes Go.WideShapes Go.ChangeAt Go.RowKit

theorem choose_list {α : Type} : ∀ {n : Nat} {p : Nat → α → Prop}, (∀ i, i < n → ∃ x, p i x) → ∃ l : List α, ∃ h : l.length = n, ∀ i (hi : i < n), p i (l[i]'(h ▸ hi))
  | 0, _, _ => ⟨[], rfl, fun i hi => absurd hi (Nat.not_lt_zero _)⟩
  | n + 1, p, h => by
    obtain ⟨l, hl, hp⟩ := choose_list (n := n) (p := fun i x => p (i + 1) x) (fun i hi => h (i + 1) (Nat.succ_lt_succ hi))
    obtain ⟨x, hx⟩ := h 0 (Nat.succ_pos n)
    refine ⟨x :: l, by simp [hl], fun i hi => ?_⟩
    cases i with
    | zero => exact hx
    | succ i => exact hp i (Nat.lt_of_succ_lt_succ hi)
theorem add_nought (a : Addr) : a.add 0 = a := by
  obtain ⟨b, o, s⟩ := a
  unfold Addr.add
  split <;> simp_all
theorem cell_spot {w : World} {a : Addr} {v : Value} (h : w.cell? a = some v) : a.spot = none := by
  unfold World.cell? at h
  split at h
  · split at h
    · cases h
    · rename_i hs
      cases hsp : a.spot with
      | none => rfl
      | some _ => rw [hsp] at hs; exact absurd rfl hs
  · cases h

theorem one_le {H : Type} (d : DataW H) : 1 ≤ Rows.uptoBulk d := by
  cases d with
  | lit l => cases l <;> simp [Rows.uptoBulk]
  | nil => simp [Rows.uptoBulk]
  | ptr d => simp [Rows.uptoBulk]
  | slice elems spare => simp [Rows.uptoBulk]
  | agg parts => simp [Rows.uptoBulk]
  | iface t d => simp [Rows.uptoBulk]
  | map entries => simp [Rows.uptoBulk]
  | held h => simp [Rows.uptoBulk]
theorem masses_all {H : Type} : ∀ (l : List Sx) (ds : List (DataW H)), l.length = ds.length → (∀ i (h1 : i < l.length) (h2 : i < ds.length), (l[i]).mass ≤ Rows.uptoBulk ds[i]) → Sx.masses l ≤ Rows.uptoBulkAll ds
  | [], _, _, _ => by rw [Sx.masses]; exact Nat.zero_le _
  | x :: r, [], h, _ => by simp at h
  | x :: r, d :: ds, h, hp => by
    have h0 := hp 0 (by simp) (by simp)
    have h1 := masses_all r ds (by simpa using h) (fun i a b => hp (i + 1) (by simpa using a) (by simpa using b))
    simp only [List.getElem_cons_zero] at h0
    rw [Sx.masses, Rows.uptoBulkAll]
    omega

set_option maxRecDepth 100000 in
theorem sx_open {H : Type} {enc : TypeId × Value → H} {W : World} {b : Nat} {hd : Bool} : ∀ (fuel : Nat) (cs : List Value) (r : DataW H × List MemPlace),
    DataW.trod enc Tryz.prog W b (fun _ => true) hd fuel 28 cs = some r → ∃ (y : C3) (x : Sx), cs = y.cells ∧ Lies (fun _ => True) W y.val x ∧ x.mass ≤ Rows.uptoBulk r.1 := by
  intro fuel
  induction fuel using Nat.strongRecOn with
  | ind fuel ih =>
  intro cs r h
  obtain ⟨xs, n, rfl, hr, hlen, hxl, hfd⟩ := DataW.trod_struct Tryz.underlying28 h
  have c26 : Tryz.prog.cellsOf 28 = 3 := by kernel_rfl
  have c23 : Tryz.prog.cellsOf 25 = 1 := by kernel_rfl
  have c9 : Tryz.prog.cellsOf 9 = 1 := by kernel_rfl
  have c24 : Tryz.prog.cellsOf 26 = 1 := by kernel_rfl
  rw [c26] at hlen
  match cs, hlen, xs, hxl with
  | [v0, v1, v2], _, [y0, y1, y2], _ =>
    have k0 := hfd 0 _ rfl
    have k1 := hfd 1 _ rfl
    have k2 := hfd 2 _ rfl
    simp [c23] at k0
    simp [c9] at k1
    simp [c24] at k2
    obtain ⟨k, e0, q0, _⟩ := DataW.trod_int Tryz.underlying25 k0
    obtain ⟨t, e1, q1, ht⟩ := DataW.trod_string Tryz.underlying9 k1
    injection e0 with e0
    injection e1 with e1
    subst e0 e1 q0 q1
    have hbt : (byts t).length = t.data.toList.length := rfl
    rcases DataW.trod_slice Tryz.underlying26 k2 with ⟨e2, q2⟩ | ⟨a, len, cap, elems, rest, m, hm, e2, q2, _, hlc, hcm, hel, hget, _⟩
    · injection e2 with e2
      subst e2 q2
      refine ⟨⟨k, t, none, 0, 0⟩, .mk k (byts t) [], rfl, ?_, ?_⟩
      rotate_left
      · rw [hr]
        simp only [Sx.mass, Sx.masses, Rows.uptoBulk, Rows.uptoBulkAll, List.map_cons, List.map_nil, hbt]
        omega
      exact Lies.mk (S := fun _ => True) (w := W) k t none 0 [] [] rfl (Nat.le_refl _) (fun _ => rfl) (by decide) (.inl rfl) (fun i hi => absurd hi (Nat.not_lt_zero _))
    · injection e2 with e2
      subst e2 q2
      rw [c26] at hget
      have each : ∀ i, i < len → ∃ z : C3 × Sx, (W.cell? (a.add (i * 3)) = some (.int .i8 z.1.k) ∧ W.cell? ((a.add (i * 3)).add 1) = some (.string z.1.t) ∧ W.cell? ((a.add (i * 3)).add 2) = some (.slice z.1.A z.1.n z.1.c)) ∧ Lies (fun _ => True) W z.1.val z.2 ∧ ∀ h, z.2.mass ≤ Rows.uptoBulk (elems[i]'h).1 := fun i hi => by
        have h1 := hget i hi
        rw [List.getElem?_eq_getElem (by rw [hel]; exact hi)] at h1
        obtain ⟨cs', h2, h3⟩ := Option.bind_eq_some_iff.1 h1
        obtain ⟨y, x, rfl, hl, hma⟩ := ih m (by omega) cs' _ h3
        obtain ⟨_, _, hc⟩ := World.cells?_some h2
        exact ⟨(y, x), ⟨by simpa [C3.cells, add_nought] using hc 0 (by decide), by simpa [C3.cells] using hc 1 (by decide), by simpa [C3.cells] using hc 2 (by decide)⟩, hl, fun _ => hma⟩
      obtain ⟨zs, hz, hp⟩ := choose_list each
      refine ⟨⟨k, t, some a, len, cap⟩, .mk k (byts t) (zs.map (·.2)), rfl, ?_, ?_⟩
      rotate_left
      · have hms := masses_all (zs.map (·.2)) (elems.map (·.1)) (by simp [hz, hel]) (fun i h1 h2 => by
          rw [List.getElem_map, List.getElem_map]
          exact (hp i (by simpa [hz] using h1)).2.2 (by simpa using h2))
        rw [hr]
        simp only [Sx.mass, Rows.uptoBulk, Rows.uptoBulkAll, List.map_cons, List.map_nil, hbt]
        omega
      have hlen2 : (zs.map (·.2)).length = len := by rw [List.length_map, hz]
      have := Lies.mk (S := fun _ => True) (w := W) k t (some a) cap (zs.map fun z => z.1.val) (zs.map (·.2)) (by simp) (by rw [hlen2]; exact hlc) (fun e => by cases e) (by rw [hlen2]; unfold maxLen at hcm; omega) ?_ (fun i hi => by
        rw [List.getElem_map, List.getElem_map]
        exact (hp i (by simpa [hz] using hi)).2.1)
      · rw [hlen2] at this
        exact this
      · rcases Nat.eq_zero_or_pos len with h0 | h0
        · exact .inl (List.eq_nil_of_length_eq_zero (by rw [hlen2]; exact h0))
        · have hsp := cell_spot (hp 0 h0).1.1
          have hsp2 : a.spot = none := by
            unfold Addr.add at hsp
            split at hsp <;> simp_all
          obtain ⟨b', off, sp⟩ := a
          dsimp only at hsp2
          subst hsp2
          have hadd : ∀ o j, (⟨b', o, none⟩ : Addr).add j = ⟨b', o + j, none⟩ := fun o j => by unfold Addr.add; split <;> simp_all
          refine .inr ⟨b', off, rfl, True.intro, ?_, fun i hi => ?_⟩
          · have := World.block_lt_of_cell? _ _ (hp 0 h0).1.1
            rw [hadd] at this
            exact this
          · obtain ⟨⟨g0, g1, g2⟩, _⟩ := hp i (by simpa [hz] using hi)
            rw [hadd] at g0
            rw [hadd, hadd] at g1 g2
            rw [List.getElem_map]
            exact ⟨_, _, _, rfl, g0, g1, g2⟩
theorem C3.val_inj {a b : C3} (h : a.val = b.val) : a = b := by
  obtain ⟨k, t, A, n, c⟩ := a
  obtain ⟨k', t', A', n', c'⟩ := b
  simp only [C3.val, Value.agg.injEq, Array.mk.injEq, List.cons.injEq, Value.int.injEq, Value.string.injEq, Value.slice.injEq] at h
  obtain ⟨⟨_, rfl⟩, rfl, ⟨rfl, rfl, rfl⟩, _⟩ := h
  rfl
set_option maxRecDepth 100000 in
/-- An argument that is an expression. -/
theorem sexp_in {H : Type} {enc : TypeId × Value → H} {W : World} {b base : Nat} {hd : Bool} {v : Value} {d : DataW H} {p : List MemPlace} (hv : Value.okWide Tryz.prog W .any base 28 v) (h : DataW.Trod enc Tryz.prog W b (fun _ => true) hd 28 v d p) :
    ∃ (y : C3) (x : Sx), v = y.val ∧ Lies (fun _ => True) W y.val x ∧ x.mass ≤ Rows.uptoBulk d := by
  obtain ⟨cs, rfl, _⟩ := okWide_struct Tryz.underlying28 hv
  obtain ⟨fuel, hf⟩ := h
  obtain ⟨y, x, hc, hl, hm⟩ := sx_open fuel _ _ hf
  refine ⟨y, x, ?_, hl, hm⟩
  have hc2 : cs.toList = y.cells := hc
  show Value.agg cs = Value.agg #[.int .i8 y.k, .string y.t, .slice y.A y.n y.c]
  congr 1
  apply Array.ext'
  rw [hc2]
  rfl
end Go.Proofs.YtiklliiamljogaaGreatDoor

/- Rows of steps that came in; Great upon them; the table. -/
namespace Go.Proofs.YtiklliiamljogaaGreatDoor
open Go.ChangeShapes Go.WideShapes Go.ChangeAt Go.RowKit Go.Lib

/-- A step's four cells as they came in: its row is told where it is not too long. -/
structure Is4G (w : World) (y : C4) (s : Stp) : Prop where
  k : y.k = s.k
  a : y.a = s.a
  b : y.b = s.b
  n : y.n = s.l.length
  is : s.l.length ≤ 1000000 → Is4 w y s
  kind : -128 ≤ s.k ∧ s.k ≤ 127
/-- A row of steps that came in. -/
structure GS (w : World) (A : Option Addr) (L : List Stp) : Prop where
  len : L.length ≤ 9223372036854775807
  at_ : ∀ i (hi : i < L.length), ∃ b off y, A = some ⟨b, off, none⟩ ∧ b < w.heap.size ∧
    (w.cell? ⟨b, off + i * 4, none⟩ = some (.int .i8 y.k) ∧ w.cell? ⟨b, off + i * 4 + 1, none⟩ = some (.int .i64 y.a) ∧ w.cell? ⟨b, off + i * 4 + 2, none⟩ = some (.int .i64 y.b) ∧ w.cell? ⟨b, off + i * 4 + 3, none⟩ = some (.slice y.A y.n y.c)) ∧ Is4G w y L[i]
theorem GS.kinds {w : World} {A : Option Addr} {L : List Stp} (h : GS w A L) : ∀ s ∈ L, -128 ≤ s.k ∧ s.k ≤ 127 := fun s hs => by
  obtain ⟨i, hi, rfl⟩ := List.mem_iff_getElem.1 hs
  obtain ⟨_, _, _, _, _, _, hy⟩ := h.at_ i hi
  exact hy.kind
theorem GS.steps {w : World} {A : Option Addr} {L : List Stp} (h : GS w A L) (hn : NotGreat L) : Steps w A L := fun i hi => by
  obtain ⟨b, off, y, e, hlt, hc, hy⟩ := h.at_ i hi
  exact ⟨b, off, y, e, hlt, hc, hy.is (by have := hn.lits _ (List.getElem_mem hi); omega)⟩
theorem Is4G.keep {w w' : World} {y : C4} {s : Stp} (h : Is4G w y s) (hb : Below w.heap.size w w') : Is4G w' y s := ⟨h.k, h.a, h.b, h.n, fun hl => (h.is hl).keep hb, h.kind⟩
theorem GS.keep {w w' : World} {A : Option Addr} {L : List Stp} (h : GS w A L) (hb : Below w.heap.size w w') : GS w' A L := ⟨h.len, fun i hi => by
  obtain ⟨b, off, y, e, hlt, ⟨h0, h1, h2, h3⟩, hy⟩ := h.at_ i hi
  exact ⟨b, off, y, e, Nat.lt_of_lt_of_le hlt hb.size, ⟨(hb.cell (p := ⟨b, off + i * 4, none⟩) hlt).trans h0, (hb.cell (p := ⟨b, off + i * 4 + 1, none⟩) hlt).trans h1, (hb.cell (p := ⟨b, off + i * 4 + 2, none⟩) hlt).trans h2, (hb.cell (p := ⟨b, off + i * 4 + 3, none⟩) hlt).trans h3⟩, hy.keep hb⟩⟩
set_option maxHeartbeats 2000000 in
set_option maxRecDepth 100000 in
theorem great28g_ok (L : List Stp) (w : World) (A : Option Addr) (c : Nat) (h : GS w A L) :
    Calls Tryz.prog 8 #[.slice A L.length c] w fun e w' => e = .returned (.bool (greatM L)) ∧ w = w' := by
  have hmax := h.len
  have HST := Lib.hid h
  clear h
  go_enter Tryz.func8, Tryz.ntmps8
  go_wp2
  go_loopw [3, 4] (fun v d wx => wx = w ∧ ∃ i : Nat, i ≤ L.length ∧ i ≤ 5001 ∧ v = .int .i64 (gsum (L.take i)) ∧ d = .int .i64 i) (fun _ d _ => (5001 - intOf d).toNat)
  case atStart => exact ⟨rfl, 0, Nat.zero_le _, Nat.zero_le _, rfl, rfl⟩
  case round =>
    obtain ⟨rfl, i, hi, hi5, rfl, rfl⟩ := hrel
    have hgl := gsum_le (L.take i)
    rw [List.length_take] at hgl
    by_cases hin : i < L.length ∧ i ≤ 5000
    · have hiz : (i : Int) < (L.length : Int) := by omega
      have d1 : decide ((i : Int) < L.length) = true := decide_eq_true hiz
      have d2 : decide ((i : Int) ≤ 5000) = true := decide_eq_true (by omega)
      obtain ⟨b, off, y, rfl, hlt, ⟨c0, c1, c2, c3⟩, hy⟩ := HST.out.at_ i hin.1
      have hn := hy.n
      have hsn := gsum_snoc L i hin.1
      clear HST
      go_wp2
      go_roundw
      case rel => exact ⟨trivial, i + 1, by omega, by omega, by (rw [hsn]; congr 1; omega), by go_num⟩
      case measure => simp only [intOf]; omega
    · by_cases hiL : i < L.length
      · have hiz : (i : Int) < (L.length : Int) := by omega
        have d1 : decide ((i : Int) < L.length) = true := decide_eq_true hiz
        have d2 : decide ((i : Int) ≤ 5000) = false := decide_eq_false (by omega)
        have d3 : decide ((L.length : Int) > 5000) = true := decide_eq_true (by omega)
        have d4 : decide ((5000 : Int) < L.length) = true := d3
        clear HST
        go_wp2
        go_ret
        refine ⟨ret_bool ?_, rfl⟩
        unfold greatM
        rw [decide_eq_true (show 5000 < L.length by omega), Bool.true_or]
      · have hL : L.take i = L := List.take_of_length_le (by omega)
        have d1 : decide ((i : Int) < L.length) = false := decide_eq_false (by omega)
        clear HST
        by_cases h5 : 5000 < L.length
        · have d3 : decide ((L.length : Int) > 5000) = true := decide_eq_true (by omega)
          have d4 : decide ((5000 : Int) < L.length) = true := d3
          go_wp2
          go_ret
          refine ⟨ret_bool ?_, rfl⟩
          unfold greatM
          rw [decide_eq_true h5, Bool.true_or]
        · have d3 : decide ((L.length : Int) > 5000) = false := decide_eq_false (by omega)
          have d4 : decide ((5000 : Int) < L.length) = false := d3
          go_wp2
          go_ret
          refine ⟨ret_bool ?_, rfl⟩
          unfold greatM
          rw [decide_eq_false h5, Bool.false_or, List.take_of_length_le (show L.length ≤ 5001 by omega)]
          exact decide_eq_decide.2 (by omega)


/-! ### The readings -/
set_option maxRecDepth 100000 in
theorem ints_open {H : Type} {enc : TypeId × Value → H} {W : World} {b : Nat} {hd : Bool} {fuel : Nat} {v : Value} {r : DataW H × List MemPlace} (h : DataW.trod enc Tryz.prog W b (fun _ => true) hd fuel 44 [v] = some r) :
    ∃ (A : Option Addr) (n c : Nat) (zs : List Int), v = .slice A n c ∧ zs.length = n ∧ n ≤ c ∧ (A = none → c = 0) ∧ (zs.length ≤ 1000000 → Row .i64 W A zs) := by
  have c3 : Tryz.prog.cellsOf 3 = 1 := by kernel_rfl
  rcases DataW.trod_slice Tryz.underlying44 h with ⟨e2, _⟩ | ⟨a, len, cap, elems, rest, m, hm, e2, _, _, hlc, hcm, hel, hget, _⟩
  · injection e2 with e2
    exact ⟨none, 0, 0, [], e2, rfl, Nat.le_refl _, fun _ => rfl, fun _ => ⟨by simp, .inl rfl⟩⟩
  · injection e2 with e2
    rw [c3] at hget
    have each : ∀ i, i < len → ∃ z : Int, W.cell? (a.add (i * 1)) = some (.int .i64 z) := fun i hi => by
      have h1 := hget i hi
      rw [List.getElem?_eq_getElem (by rw [hel]; exact hi)] at h1
      obtain ⟨cs', h2, h3⟩ := Option.bind_eq_some_iff.1 h1
      obtain ⟨z, e0, _, _⟩ := DataW.trod_int Tryz.underlying3 h3
      obtain ⟨_, _, hc⟩ := World.cells?_some h2
      subst e0
      exact ⟨z, by simpa [add_nought] using hc 0 (by decide)⟩
    obtain ⟨zs, hz, hp⟩ := choose_list each
    refine ⟨some a, len, cap, zs, e2, hz, hlc, fun e => (by cases e), fun hl => ⟨hl, ?_⟩⟩
    rcases Nat.eq_zero_or_pos len with h0 | h0
    · exact .inl (by omega)
    · have hsp := cell_spot (hp 0 h0)
      have hsp2 : a.spot = none := by
        unfold Addr.add at hsp
        split at hsp <;> simp_all
      obtain ⟨b', off, sp⟩ := a
      dsimp only at hsp2
      subst hsp2
      have hadd : ∀ o j, (⟨b', o, none⟩ : Addr).add j = ⟨b', o + j, none⟩ := fun o j => by unfold Addr.add; split <;> simp_all
      refine .inr ⟨b', off, rfl, ?_, fun i hi => ?_⟩
      · have := World.block_lt_of_cell? _ _ (hp 0 h0)
        rw [hadd] at this
        exact this
      · have := hp i (by omega)
        rw [hadd, Nat.mul_one] at this
        exact this
set_option maxRecDepth 100000 in
theorem stp_open {H : Type} {enc : TypeId × Value → H} {W : World} {b : Nat} {hd : Bool} {fuel : Nat} {cs : List Value} {r : DataW H × List MemPlace} (h : DataW.trod enc Tryz.prog W b (fun _ => true) hd fuel 46 cs = some r) :
    ∃ (y : C4) (s : Stp), cs = y.cells ∧ Is4G W y s := by
  obtain ⟨xs, n, rfl, hr, hlen, hxl, hfd⟩ := DataW.trod_struct Tryz.underlying46 h
  have c26 : Tryz.prog.cellsOf 46 = 4 := by kernel_rfl
  have c23 : Tryz.prog.cellsOf 25 = 1 := by kernel_rfl
  have c3 : Tryz.prog.cellsOf 3 = 1 := by kernel_rfl
  have c24 : Tryz.prog.cellsOf 44 = 1 := by kernel_rfl
  rw [c26] at hlen
  match cs, hlen, xs, hxl with
  | [v0, v1, v2, v3], _, [y0, y1, y2, y3], _ =>
    have k0 := hfd 0 _ rfl
    have k1 := hfd 1 _ rfl
    have k2 := hfd 2 _ rfl
    have k3 := hfd 3 _ rfl
    simp [c23] at k0
    simp [c3] at k1
    simp [c3] at k2
    simp [c24] at k3
    obtain ⟨k, e0, _, wk⟩ := DataW.trod_int Tryz.underlying25 k0
    obtain ⟨a1, e1, _, _⟩ := DataW.trod_int Tryz.underlying3 k1
    obtain ⟨a2, e2, _, _⟩ := DataW.trod_int Tryz.underlying3 k2
    obtain ⟨A, n3, c, zs, e3, hz, hnc, hnil, hrow⟩ := ints_open k3
    injection e0 with e0
    injection e1 with e1
    injection e2 with e2
    subst e0 e1 e2 e3
    refine ⟨⟨k, a1, a2, A, n3, c⟩, ⟨k, a1, a2, zs⟩, rfl, rfl, rfl, rfl, hz.symm, fun hl => ⟨rfl, rfl, rfl, hz.symm, hnc, hnil, hrow hl⟩, ?_⟩
    simp [Lit.wf, IntKind.min, IntKind.max, IntKind.bits, IntKind.signed] at wk
    exact ⟨by show -128 ≤ k; omega, by show k ≤ 127; omega⟩
set_option maxRecDepth 100000 in
theorem steps_open {H : Type} {enc : TypeId × Value → H} {W : World} {b : Nat} {hd : Bool} {fuel : Nat} {v : Value} {r : DataW H × List MemPlace} (h : DataW.trod enc Tryz.prog W b (fun _ => true) hd fuel 22 [v] = some r) :
    ∃ (A : Option Addr) (c : Nat) (L : List Stp), v = .slice A L.length c ∧ GS W A L := by
  have c4 : Tryz.prog.cellsOf 46 = 4 := by kernel_rfl
  rcases DataW.trod_slice Tryz.underlying22 h with ⟨e2, _⟩ | ⟨a, len, cap, elems, rest, m, hm, e2, _, _, hlc, hcm, hel, hget, _⟩
  · injection e2 with e2
    exact ⟨none, 0, [], e2, by decide, fun i hi => absurd hi (Nat.not_lt_zero _)⟩
  · injection e2 with e2
    rw [c4] at hget
    have each : ∀ i, i < len → ∃ z : C4 × Stp, (W.cell? (a.add (i * 4)) = some (.int .i8 z.1.k) ∧ W.cell? ((a.add (i * 4)).add 1) = some (.int .i64 z.1.a) ∧ W.cell? ((a.add (i * 4)).add 2) = some (.int .i64 z.1.b) ∧ W.cell? ((a.add (i * 4)).add 3) = some (.slice z.1.A z.1.n z.1.c)) ∧ Is4G W z.1 z.2 := fun i hi => by
      have h1 := hget i hi
      rw [List.getElem?_eq_getElem (by rw [hel]; exact hi)] at h1
      obtain ⟨cs', h2, h3⟩ := Option.bind_eq_some_iff.1 h1
      obtain ⟨y, s, rfl, hI⟩ := stp_open h3
      obtain ⟨_, _, hc⟩ := World.cells?_some h2
      exact ⟨(y, s), ⟨by simpa [C4.cells, add_nought] using hc 0 (by decide), by simpa [C4.cells] using hc 1 (by decide), by simpa [C4.cells] using hc 2 (by decide), by simpa [C4.cells] using hc 3 (by decide)⟩, hI⟩
    obtain ⟨zs, hz, hp⟩ := choose_list each
    have hzl : (zs.map (·.2)).length = len := by rw [List.length_map, hz]
    refine ⟨some a, cap, zs.map (·.2), by rw [hzl]; exact e2, by rw [hzl]; unfold maxLen at hcm; omega, fun i hi => ?_⟩
    rw [List.length_map] at hi
    have hi2 : i < len := by omega
    have h0 : 0 < len := by omega
    have hsp := cell_spot (hp 0 h0).1.1
    have hsp2 : a.spot = none := by
      unfold Addr.add at hsp
      split at hsp <;> simp_all
    obtain ⟨b', off, sp⟩ := a
    dsimp only at hsp2
    subst hsp2
    have hadd : ∀ o j, (⟨b', o, none⟩ : Addr).add j = ⟨b', o + j, none⟩ := fun o j => by unfold Addr.add; split <;> simp_all
    obtain ⟨⟨g0, g1, g2, g3⟩, hI⟩ := hp i hi2
    rw [hadd] at g0
    rw [hadd, hadd] at g1 g2 g3
    refine ⟨b', off, _, rfl, ?_, ⟨g0, g1, g2, g3⟩, ?_⟩
    · have := World.block_lt_of_cell? _ _ (hp 0 h0).1.1
      rw [hadd] at this
      exact this
    · rw [List.getElem_map]; exact hI
/-! ### As a row's proof wants them -/
set_option maxRecDepth 100000 in
theorem steps_own {H : Type} {enc : TypeId × Value → H} {W : World} {b base : Nat} {hd : Bool} {v : Value} {d : DataW H} {p : List MemPlace} (hv : Value.okWide Tryz.prog W .any base 22 v) (h : DataW.Trod enc Tryz.prog W b (fun _ => true) hd 22 v d p) (_ : ∀ x ∈ p, x.block < W.heap.size) :
    ∃ x : (Option Addr × Nat) × List Stp, v = .slice x.1.1 x.2.length x.1.2 ∧ GS W x.1.1 x.2 := by
  obtain ⟨A0, l0, c0, rfl⟩ := okWide_slice Tryz.underlying22 hv
  obtain ⟨fuel, hf⟩ := h
  obtain ⟨A, c, L, e, hG⟩ := steps_open (v := .slice A0 l0 c0) hf
  exact ⟨((A, c), L), e, hG⟩
set_option maxRecDepth 100000 in
theorem step_own {H : Type} {enc : TypeId × Value → H} {W : World} {b base : Nat} {hd : Bool} {v : Value} {d : DataW H} {p : List MemPlace} (hv : Value.okWide Tryz.prog W .any base 46 v) (h : DataW.Trod enc Tryz.prog W b (fun _ => true) hd 46 v d p) (_ : ∀ x ∈ p, x.block < W.heap.size) :
    ∃ x : C4 × Stp, v = .agg #[.int .i8 x.1.k, .int .i64 x.1.a, .int .i64 x.1.b, .slice x.1.A x.1.n x.1.c] ∧ Is4G W x.1 x.2 := by
  obtain ⟨cs, rfl, _⟩ := okWide_struct Tryz.underlying46 hv
  obtain ⟨fuel, hf⟩ := h
  obtain ⟨y, s, hc, hI⟩ := stp_open hf
  refine ⟨(y, s), ?_, hI⟩
  have hc2 : cs.toList = y.cells := hc
  show Value.agg cs = Value.agg #[.int .i8 y.k, .int .i64 y.a, .int .i64 y.b, .slice y.A y.n y.c]
  congr 1
  apply Array.ext'
  rw [hc2]
  rfl
set_option maxRecDepth 100000 in
theorem sexp_own {H : Type} {enc : TypeId × Value → H} {W : World} {b base : Nat} {hd : Bool} {v : Value} {d : DataW H} {p : List MemPlace} (hv : Value.okWide Tryz.prog W .any base 28 v) (h : DataW.Trod enc Tryz.prog W b (fun _ => true) hd 28 v d p) (_ : ∀ x ∈ p, x.block < W.heap.size) :
    ∃ x : C3 × Sx, v = .agg #[.int .i8 x.1.k, .string x.1.t, .slice x.1.A x.1.n x.1.c] ∧ Lies (fun _ => True) W x.1.val x.2 := by
  obtain ⟨y, x, e, hl, _⟩ := sexp_in hv h
  exact ⟨(y, x), e, hl⟩
theorem laid_tail {P : Program} {x : String × DataW Unit} {rest : List (String × DataW Unit)} {W : World} (h : laidMet P (x :: rest) W) : laidMet P rest W := by
  obtain ⟨ps, ⟨g, t, cs, fuel, p, q, _, _, _, _, hq, rfl⟩, hnd, hfr⟩ := h
  exact ⟨q, hq, (List.nodup_append.1 hnd).2.1, fun b off hm => hfr b off (List.mem_append.2 (.inr hm))⟩
set_option maxRecDepth 100000 in
theorem tab_of {W : World} (h : laidMetH Tryz.prog Rows.proofWritesRow.laid W) : Tab W :=
  Lib.tabIs_of_head (rest := []) (g := 1) (by kernel_rfl) (by kernel_rfl) Tryz.underlying165 Tryz.underlying153 (by kernel_rfl) (by kernel_rfl) (laid_tail (laid_tail h))
end Go.Proofs.YtiklliiamljogaaGreatDoor

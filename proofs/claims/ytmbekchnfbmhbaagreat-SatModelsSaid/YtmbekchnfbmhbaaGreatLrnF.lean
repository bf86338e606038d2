/- resolves. -/
import Derived.Test.YtmbekchnfbmhbaaGreatLrnE
import Derived.Test.YtmbekchnfbmhbaaGreatLrnP
import Derived.Deep.RegionHeld3
namespace Go.Proofs.YtmbekchnfbmhbaaGreat
open Go.RowKit Go.Lib
open Go.Maps (Keyed)

/-- A row of clauses that came in. -/
structure Grid (w : World) (A : Option Addr) (rows : List (Option Addr × Nat × List Int)) : Prop where
  len : rows.length ≤ 1000000
  at_ : rows.length = 0 ∨ ∃ b off, A = some ⟨b, off, none⟩ ∧ b < w.heap.size ∧ ∀ k (h : k < rows.length), w.cell? ⟨b, off + k, none⟩ = some (.slice rows[k].1 rows[k].2.2.length rows[k].2.1) ∧ Row .i64 w rows[k].1 rows[k].2.2 ∧ (rows[k].1 = none → rows[k].2.1 = 0)
theorem Grid.below {w w' : World} {A : Option Addr} {rows : List (Option Addr × Nat × List Int)} (h : Grid w A rows) (hb : Below w.heap.size w w') : Grid w' A rows := by
  refine ⟨h.len, h.at_.imp id fun ⟨b, off, h1, h2, h3⟩ => ⟨b, off, h1, Nat.lt_of_lt_of_le h2 hb.size, fun i hi => ?_⟩⟩
  exact ⟨(hb.cell (p := ⟨b, off + i, none⟩) h2).trans (h3 i hi).1, (h3 i hi).2.1.below hb, (h3 i hi).2.2⟩
def rowsOf (rows : List (Option Addr × Nat × List Int)) : List (List Int) := rows.map fun r => r.2.2

/-- Where each literal stands, as a map holds it. -/
def posF (M : Tr) (n : Nat) (key : Value) : Option Value := match key with
  | .int .i64 x => (posOf ((litsM M).take n) x).map fun k => .int .i64 (k : Nat)
  | _ => none
theorem pos_look {w : World} {g n : Nat} {M : Tr} {m : Nat} (h : MapAt Tryz.prog 3 w g n (posF M m)) (x : Int) (h0 : -9223372036854775808 ≤ x) (h1 : x ≤ 9223372036854775807) :
    (Instr.lookup 100 (.map (some g)) (.int .i64 x) true).run Tryz.prog w = .ok (.tuple #[.int .i64 ((posOf ((litsM M).take m) x).getD 0 : Nat), .bool (posOf ((litsM M).take m) x).isSome]) w := by
  refine (h.look int_key Tryz.underlying100 (zero_int w) (int_key_of h0 h1) true).trans ?_
  rw [show posF M m (.int .i64 x) = (posOf ((litsM M).take m) x).map fun k => .int .i64 (k : Nat) from rfl]
  cases posOf ((litsM M).take m) x <;> rfl
theorem pos_look0 {w : World} {g n : Nat} {M : Tr} {m : Nat} (h : MapAt Tryz.prog 3 w g n (posF M m)) (x : Int) (h0 : -9223372036854775808 ≤ x) (h1 : x ≤ 9223372036854775807) :
    (Instr.lookup 100 (.map (some g)) (.int .i64 x) false).run Tryz.prog w = .ok (.int .i64 ((posOf ((litsM M).take m) x).getD 0 : Nat)) w := by
  refine (h.look int_key Tryz.underlying100 (zero_int w) (int_key_of h0 h1) false).trans ?_
  rw [show posF M m (.int .i64 x) = (posOf ((litsM M).take m) x).map fun k => .int .i64 (k : Nat) from rfl]
  cases posOf ((litsM M).take m) x <;> rfl

/-- A conflict that is resolved, as it lies. -/
structure WK (w : World) (B bw bt bm : Nat) (LA : Option Addr) (nl cl : Nat) (M : Tr) (CA : Option Addr) (cc : Nat) (c : List Int) (vh : Value) (ch : List Int) : Prop where
  blk : Blk w bw 102 #[.pointer (some ⟨bt, 0, none⟩), .slice LA nl cl, .map (some bm), .slice CA c.length cc, vh]
  crow : Row .i64 w CA c
  nil : CA = none → cc = 0
  own : w.ownsRow B 3 1 vh ch.length (ch.map (Value.int .i64))
  at_ : MapAt Tryz.prog 3 w bm M.L.length (posF M M.L.length)
  apart : 0 < c.length → ∀ a, CA = some a → vh.ownBlock ≠ some a.block
theorem WK.below {w w' : World} {B bw bt bm : Nat} {LA : Option Addr} {nl cl : Nat} {M : Tr} {CA : Option Addr} {cc : Nat} {c : List Int} {vh : Value} {ch : List Int} (h : WK w B bw bt bm LA nl cl M CA cc c vh ch) (hb : Below w.heap.size w w') : WK w' B bw bt bm LA nl cl M CA cc c vh ch :=
  ⟨h.blk.below hb h.blk.lt, h.crow.below hb, h.nil, own_kept h.own (Kept.of_below (S := fun _ => False) hb) (fun _ _ h => h), h.at_.below hb h.at_.lt, h.apart⟩

theorem isC_nonneg {c : List Int} (h : isC c = true) : ∀ x ∈ c, 0 ≤ x := by
  intro x hx
  have h1 : c = makeM c := by unfold isC at h; exact eq_of_beq h
  rw [h1] at hx
  unfold makeM at hx
  have := (List.mem_filter.1 ((made_mem _ _).1 hx)).2
  simp at this
  exact this

theorem row_far {w : World} {A : Option Addr} {zs : List Int} {g : Nat} {t : TypeId} {cs : Array Value} (h : Row .i64 w A zs) (hb : Blk w g t cs) (hn : ∀ (i : Nat) (x : Int), cs[i]? ≠ some (.int .i64 x)) (i : Nat) (u : Value) : Row .i64 (w.setCell ⟨g, i, none⟩ u) A zs := by
  refine ⟨h.len, ?_⟩
  rcases Nat.eq_zero_or_pos zs.length with h0 | h0
  · exact .inl h0
  · obtain ⟨b, off, h1, h2, h3⟩ := h.at_.resolve_left (by omega)
    have hne : b ≠ g := by
      rintro rfl
      have := h3 0 h0
      rw [hb.cell] at this
      exact hn _ _ this
    refine .inr ⟨b, off, h1, by simpa [World.setCell] using h2, fun j hj => ?_⟩
    rw [World.cell?_of_block (w := w) (Below.heap_setCell w ⟨g, i, none⟩ u b hne)]
    exact h3 j hj
theorem work_no_int {bt bm nl cl nc cc : Nat} {LA CA : Option Addr} {vh : Value} (hv : ∀ x, vh ≠ .int .i64 x) (i : Nat) (x : Int) : (#[Value.pointer (some ⟨bt, 0, none⟩), .slice LA nl cl, .map (some bm), .slice CA nc cc, vh] : Array Value)[i]? ≠ some (.int .i64 x) := by
  intro h
  match i, h with
  | 0, h => cases h
  | 1, h => cases h
  | 2, h => cases h
  | 3, h => cases h
  | 4, h => exact hv x (Option.some.inj h)
  | n + 5, h => simp at h
theorem own_no_int {w : World} {base : Nat} {e : TypeId} {size n : Nat} {v : Value} {xs : List Value} (h : w.ownsRow base e size v n xs) (x : Int) : v ≠ .int .i64 x := by
  obtain ⟨A, cap, rfl⟩ := own_slice h
  intro h; cases h
theorem map_blk_ne {w : World} {g t : Nat} {cs : Array Value} {bm n : Nat} {f : Value → Option Value} (h : MapAt Tryz.prog 3 w bm n f) (hb : Blk w g t cs) : bm ≠ g := by
  obtain ⟨es, c, ho⟩ := h.obj
  rintro rfl
  unfold Blk at hb
  rw [ho] at hb
  cases hb

section
variable {w : World} {B bw bt bm : Nat} {LA : Option Addr} {nl cl : Nat} {M : Tr} {CA : Option Addr} {cc : Nat} {c : List Int} {vh : Value} {ch : List Int}
theorem WK.set3 (h : WK w B bw bt bm LA nl cl M CA cc c vh ch) {C : Option Addr} {d : Nat} {rs : List Int} (hr : Row .i64 w C rs) (hn : C = none → d = 0) (ha : ∀ a, C = some a → vh.ownBlock ≠ some a.block) :
    WK (w.setCell ⟨bw, 3, none⟩ (.slice C rs.length d)) B bw bt bm LA nl cl M C d rs vh ch := by
  have hk := Kept.set1 w bw 3 (.slice C rs.length d)
  refine ⟨?_, row_far hr h.blk (work_no_int (own_no_int h.own)) _ _, hn, own_kept h.own hk (fun g hg e => own_blk_ne h.own h.blk (by decide) (e ▸ hg)), h.at_.far (map_blk_ne h.at_ h.blk) _, fun _ => ha⟩
  have := h.blk.set_ 3 (.slice C rs.length d)
  simpa using this
theorem WK.push (h : WK w B bw bt bm LA nl cl M CA cc c vh ch) (r : Int) {w2 : World} {g cap : Nat} (ho : w2.ownsRow B 3 1 (.slice (some ⟨g, 0, none⟩) (ch.length + 1) cap) (ch.length + 1) (ch.map (Value.int .i64) ++ [.int .i64 r]))
    (hg : (w.alloc (.cells #[.int .i64 r] 3)).grownBy w2 vh.ownBlock) (hw : vh.ownBlock = some g ∨ g = (w.alloc (.cells #[.int .i64 r] 3)).heap.size) :
    WK (w2.setCell ⟨bw, 4, none⟩ (.slice (some ⟨g, 0, none⟩) (ch.length + 1) cap)) B bw bt bm LA nl cl M CA cc c (.slice (some ⟨g, 0, none⟩) (ch.length + 1) cap) (ch ++ [r]) ∧ Kept (fun k => k = bw ∨ vh.ownBlock = some k) w (w2.setCell ⟨bw, 4, none⟩ (.slice (some ⟨g, 0, none⟩) (ch.length + 1) cap)) := by
  have hne := own_blk_ne h.own h.blk (by decide)
  have hb2 : Blk w2 bw 102 #[.pointer (some ⟨bt, 0, none⟩), .slice LA nl cl, .map (some bm), .slice CA c.length cc, vh] := (h.blk.alloc _).grown hg (fun e => hne e.symm)
  have hmo : vh.ownBlock ≠ some bm := by
    obtain ⟨es, k, hob⟩ := h.at_.obj
    exact own_obj_ne h.own hob (fun _ _ _ h => by cases h)
  have hm2 : MapAt Tryz.prog 3 w2 bm M.L.length (posF M M.L.length) := (h.at_.alloc _).grown hg (fun e => hmo e.symm)
  have hc2 : Row .i64 w2 CA c := by
    refine ⟨h.crow.len, ?_⟩
    rcases Nat.eq_zero_or_pos c.length with h0 | h0
    · exact .inl h0
    · obtain ⟨b, off, h1, h2, h3⟩ := h.crow.at_.resolve_left (by omega)
      have hsz := hg.size
      have hal : b < (w.alloc (.cells #[.int .i64 r] 3)).heap.size := by simp; omega
      have hnb := h.apart h0 _ h1
      have heq : w2.heap[b]? = w.heap[b]? := (hg.block b hal (fun e => hnb e.symm)).trans (Below.heap_alloc w _ b h2)
      refine .inr ⟨b, off, h1, Nat.lt_of_lt_of_le hal hsz, fun j hj => ?_⟩
      rw [World.cell?_of_block (w := w) (a := ⟨b, off + j, none⟩) heq]
      exact h3 j hj
  have hk := Kept.set1 w2 bw 4 (.slice (some ⟨g, 0, none⟩) (ch.length + 1) cap)
  refine ⟨⟨?_, row_far hc2 hb2 (work_no_int (own_no_int h.own)) _ _, h.nil, ?_, hm2.far (map_blk_ne hm2 hb2) _, ?_⟩, ?_⟩
  · have := hb2.set_ 4 (.slice (some ⟨g, 0, none⟩) (ch.length + 1) cap)
    simpa using this
  · rw [List.length_append, List.map_append]
    exact own_kept ho hk (fun g hg e => own_blk_ne ho hb2 (by decide) (e ▸ hg))
  · intro h0 a ha
    obtain ⟨b, off, h1, h2, h3⟩ := h.crow.at_.resolve_left (by omega)
    rw [h1] at ha
    injection ha with ha
    subst ha
    rcases hw with hw | hw
    · rw [show (Value.slice (some (⟨g, 0, none⟩ : Addr)) (ch.length + 1) cap).ownBlock = some g from rfl, ← hw]
      exact h.apart h0 _ h1
    · rw [show (Value.slice (some (⟨g, 0, none⟩ : Addr)) (ch.length + 1) cap).ownBlock = some g from rfl, hw]
      intro e
      injection e with e
      simp at e
      omega
  · exact (Kept.grown ((Kept.refl _ w).alloc _) hg (fun k hk => .inl (.inr hk))).setCell (.inl (.inl rfl)) _
end
end Go.Proofs.YtmbekchnfbmhbaaGreat

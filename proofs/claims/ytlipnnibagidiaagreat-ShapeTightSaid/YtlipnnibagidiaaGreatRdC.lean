/- What share.all holds while it goes over the pairs. -/
import Derived.Test.YtlipnnibagidiaaGreatShelf
import Derived.Test.YtlipnnibagidiaaGreatRdA
import Derived.Sort.OwnSortedInts
import Derived.Shelf.Abstract
namespace Go.Proofs.YtlipnnibagidiaaGreat
open Go.RowKit Go.Lib Go.Sort
theorem own_take {w : World} {base : Nat} {e : TypeId} {size n m g cap : Nat} {xs : List Value} (h : w.ownsRow base e size (.slice (some ⟨g, 0, none⟩) n cap) n xs) (hm : m ≤ n) :
    w.ownsRow base e size (.slice (some ⟨g, 0, none⟩) m cap) m (xs.take (m * size)) := by
  have hms : m * size ≤ n * size := Nat.mul_le_mul_right _ hm
  refine ⟨by rw [List.length_take, h.1]; omega, ?_⟩
  rcases h.2 with ⟨h, _⟩ | ⟨g', cap', cur, hv, hb, hh, hc, hM, hs, ht⟩
  · cases h
  · injection hv with hv1 hv2 hv3
    injection hv1 with hv1
    injection hv1 with hv1
    subst hv1
    subst hv3
    exact .inr ⟨g, cap, cur, rfl, hb, hh, by omega, hM, hs, by rw [← ht, List.take_take]; congr 1; omega⟩
def OwnI (w : World) (base g cap : Nat) (zs : List Int) : Prop := w.ownsRow base 3 1 (.slice (some ⟨g, 0, none⟩) zs.length cap) zs.length (zs.map (Value.int .i64))
theorem OwnI.block {w : World} {base g cap : Nat} {zs : List Int} (h : OwnI w base g cap zs) :
    ∃ cur, base ≤ g ∧ w.heap[g]? = some (.cells cur 3 (0, 0)) ∧ zs.length ≤ cap ∧ cap ≤ maxLen ∧ cur.size = cap * 1 ∧ cur.toList.take zs.length = zs.map (Value.int .i64) := by
  rcases h.2 with ⟨hv, _⟩ | ⟨g', cap', cur, hv, hb, hh, hc, hM, hs, ht⟩
  · cases hv
  · injection hv with e1 _ e3
    injection e1 with e1
    injection e1 with e1
    subst e1 e3
    rw [Nat.mul_one] at ht
    exact ⟨cur, hb, hh, hc, hM, hs, ht⟩
theorem OwnI.cut {w : World} {base g cap : Nat} {n : Nat} {ts : List Int} (m : List Int) (h : w.ownsRow base 3 1 (.slice (some ⟨g, 0, none⟩) n cap) n ((m ++ ts).map (Value.int .i64))) (hm : m.length ≤ n) : OwnI w base g cap m := by
  have h1 := own_take h hm
  rw [Nat.mul_one, List.map_append, List.take_append, List.length_map, Nat.sub_self, List.take_zero, List.append_nil, List.take_of_length_le (by rw [List.length_map]; exact Nat.le_refl _)] at h1
  exact h1
theorem sort_own {w : World} {base g cap : Nat} {zs : List Int} (h : OwnI w base g cap zs) (hsz : zs.length < 4611686018427387904) :
    Calls Tryz.prog 157 #[.slice (some ⟨g, 0, none⟩) zs.length cap] w fun e w' => e = .returned (.tuple #[]) ∧ OwnI w' base g cap (zs.mergeSort fun x y => decide (x ≤ y)) ∧ w.grownBy w' (some g) := by
  obtain ⟨cur, hb, hh, hc, hM, hs, ht⟩ := h.block
  refine (Tryz.slices_Sort_int g 0 cap zs w (holds_of_blockI hh ht) (Array.getElem?_eq_some_iff.1 hh).1 hsz).mono ?_
  rintro e w' ⟨rfl, k, os, rfl⟩
  refine ⟨rfl, ?_, grownBy_sortedI _⟩
  have h1 := ownsRow_sortedI (n := k) (os := os) (ss := zs) (ts := zs.mergeSort fun x y => decide (x ≤ y)) (List.length_mergeSort _) hb hh hc hM hs
  unfold OwnI
  rw [List.length_mergeSort]
  exact h1
theorem compact_len : ∀ zs : List Int, (Lib.compact zs).length ≤ zs.length := fun zs => by
  have := Lib.compact_length_le zs
  exact this
theorem compact_own {w : World} {base g cap : Nat} {zs : List Int} (h : OwnI w base g cap zs) (hsz : zs.length ≤ 9223372036854775807) :
    Calls Tryz.prog 158 #[.slice (some ⟨g, 0, none⟩) zs.length cap] w fun e w' => e = .returned (.slice (some ⟨g, 0, none⟩) (Lib.compact zs).length cap) ∧ OwnI w' base g cap (Lib.compact zs) ∧ w.grownBy w' (some g) := by
  obtain ⟨cur, hb, hh, hc, hM, hs, ht⟩ := h.block
  refine (Tryz.slices_Compact_int g 0 cap zs w (holds_of_blockI hh ht) hsz hc).mono ?_
  rintro e w' ⟨rfl, k, rfl⟩
  have hl := compact_len zs
  have h1 := ownsRow_sortedI (n := k) (os := #[]) (ss := zs) (ts := Lib.compact zs ++ List.replicate (zs.length - (Lib.compact zs).length) 0) (by rw [List.length_append, List.length_replicate]; omega) hb hh hc hM hs
  have h2 := grownBy_sortedI (w := w) (g := g) (n := k) (os := #[]) (Lib.compact zs ++ List.replicate (zs.length - (Lib.compact zs).length) 0).toArray
  rw [grow_empty] at h1 h2
  exact ⟨rfl, OwnI.cut _ h1 hl, h2⟩
end Go.Proofs.YtlipnnibagidiaaGreat
namespace Go.Proofs.YtlipnnibagidiaaGreat
open Go.RowKit Go.Lib
def encR (r : Option Addr × Nat × List Int) : Value := .slice r.1 r.2.2.length r.2.1
structure RowN (N : Nat → Prop) (w : World) (A : Option Addr) (zs : List Int) : Prop where
  len : zs.length ≤ 100000
  at_ : zs.length = 0 ∨ ∃ b off, A = some ⟨b, off, none⟩ ∧ N b ∧ b < w.heap.size ∧ ∀ i (h : i < zs.length), w.cell? ⟨b, off + i, none⟩ = some (.int .i64 zs[i])
def RowsN (N : Nat → Prop) (w : World) (rows : List (Option Addr × Nat × List Int)) : Prop := ∀ r ∈ rows, RowN N w r.1 r.2.2 ∧ (r.1 = none → r.2.1 = 0) ∧ r.2.2.length ≤ r.2.1
structure GridV (N : Nat → Prop) (w : World) (v : Value) (rows : List (Option Addr × Nat × List Int)) : Prop where
  len : rows.length ≤ 1000000
  form : ∃ A cap, v = .slice A rows.length cap ∧ (A = none → cap = 0) ∧ rows.length ≤ cap ∧ (rows.length = 0 ∨ ∃ b off, A = some ⟨b, off, none⟩ ∧ N b ∧ b < w.heap.size ∧ ∀ k (h : k < rows.length), w.cell? ⟨b, off + k, none⟩ = some (encR rows[k]))
  rows : RowsN N w rows
section
variable {N N' : Nat → Prop} {w w' : World} {A : Option Addr} {zs : List Int} {v : Value} {rows : List (Option Addr × Nat × List Int)}
theorem RowN.row (h : RowN N w A zs) : Row w A zs := ⟨h.len, h.at_.imp id fun ⟨b, off, h1, _, h2, h3⟩ => ⟨b, off, h1, h2, h3⟩⟩
theorem RowN.kept {S : Nat → Prop} (h : RowN N w A zs) (hk : Kept S w w') (hN : ∀ b, b < w.heap.size → N b → ¬ S b) : RowN N w' A zs := by
  refine ⟨h.len, h.at_.imp id fun ⟨b, off, h1, h2, h3, h4⟩ => ⟨b, off, h1, h2, Nat.lt_of_lt_of_le h3 hk.size, fun i hi => ?_⟩⟩
  have hb : w'.heap[b]? = w.heap[b]? := hk.block b h3 (hN b h3 h2)
  rw [show w'.cell? ⟨b, off + i, none⟩ = w.cell? ⟨b, off + i, none⟩ by unfold World.cell?; rw [hb]]
  exact h4 i hi
theorem RowN.mono (h : RowN N w A zs) (hN : ∀ b, b < w.heap.size → N b → N' b) : RowN N' w A zs :=
  ⟨h.len, h.at_.imp id fun ⟨b, off, h1, h2, h3, h4⟩ => ⟨b, off, h1, hN b h3 h2, h3, h4⟩⟩
theorem RowsN.kept {S : Nat → Prop} (h : RowsN N w rows) (hk : Kept S w w') (hN : ∀ b, b < w.heap.size → N b → ¬ S b) : RowsN N w' rows := fun r hr => ⟨(h r hr).1.kept hk hN, (h r hr).2⟩
theorem RowsN.mono (h : RowsN N w rows) (hN : ∀ b, b < w.heap.size → N b → N' b) : RowsN N' w rows := fun r hr => ⟨(h r hr).1.mono hN, (h r hr).2⟩
theorem RowsN.append {rows' : List (Option Addr × Nat × List Int)} (h : RowsN N w rows) (k : RowsN N w rows') : RowsN N w (rows ++ rows') := fun r hr => (List.mem_append.1 hr).elim (h r) (k r)
theorem GridV.kept {S : Nat → Prop} (h : GridV N w v rows) (hk : Kept S w w') (hN : ∀ b, b < w.heap.size → N b → ¬ S b) : GridV N w' v rows := by
  obtain ⟨A, cap, h1, h2, h2', h3⟩ := h.form
  refine ⟨h.len, ⟨A, cap, h1, h2, h2', h3.imp id fun ⟨b, off, g1, g2, g3, g4⟩ => ⟨b, off, g1, g2, Nat.lt_of_lt_of_le g3 hk.size, fun k hk' => ?_⟩⟩, h.rows.kept hk hN⟩
  have hb : w'.heap[b]? = w.heap[b]? := hk.block b g3 (hN b g3 g2)
  rw [show w'.cell? ⟨b, off + k, none⟩ = w.cell? ⟨b, off + k, none⟩ by unfold World.cell?; rw [hb]]
  exact g4 k hk'
theorem GridV.mono (h : GridV N w v rows) (hN : ∀ b, b < w.heap.size → N b → N' b) : GridV N' w v rows := by
  obtain ⟨A, cap, h1, h2, h2', h3⟩ := h.form
  exact ⟨h.len, ⟨A, cap, h1, h2, h2', h3.imp id fun ⟨b, off, g1, g2, g3, g4⟩ => ⟨b, off, g1, hN b g3 g2, g3, g4⟩⟩, h.rows.mono hN⟩
theorem RowN.of_own {B : Nat} {n c : Nat} (h : w.ownsRow B 3 1 (.slice A n c) zs.length (zs.map (Value.int .i64))) (hl : zs.length ≤ 100000) : RowN (fun b => B ≤ b) w A zs ∧ (A = none → c = 0) ∧ zs.length ≤ c ∧ n = zs.length := by
  rcases h.2 with ⟨e, h0⟩ | ⟨g, cap, cur, e, h1, hg, h3, _⟩
  · injection e with e1 e2 e3
    subst e1 e2 e3
    have h0' : zs.length = 0 := h0
    exact ⟨⟨hl, .inl h0'⟩, fun _ => rfl, by omega, h0'.symm⟩
  · injection e with e1 e2 e3
    subst e1 e2 e3
    refine ⟨⟨hl, .inr ⟨g, 0, rfl, h1, Blk.lt (t := 3) hg, fun k hk => ?_⟩⟩, fun e => (by cases e), h3, rfl⟩
    have := h.cells (g := g) rfl k (.int .i64 zs[k]) (by rw [List.getElem?_map, List.getElem?_eq_getElem hk]; rfl)
    rw [addr_add] at this
    rw [Nat.zero_add]
    exact this
end
end Go.Proofs.YtlipnnibagidiaaGreat
namespace Go.Proofs.YtlipnnibagidiaaGreat
open Go.RowKit
open Go.Maps (Keyed)
theorem slice_info : (Tryz.prog.info? 27).map (fun i => (i.zero, i.size, i.bytes)) = some (some (.slice none 0 0), 1, 24) := by kernel_rfl
theorem append_rows_run {N : Nat → Prop} {w : World} {base : Nat} {v x : Value} {rs rows : List (Option Addr × Nat × List Int)} (ty : TypeId) (hown : w.ownsRow base 27 1 v rs.length (rs.map encR)) (hg : GridV N w x rows) (hl : rs.length + rows.length ≤ 1000000) (hbase : base ≤ w.heap.size) (hx : x = .slice none 0 0 ∨ 0 < rows.length) :
    ∃ v' w', (Builtin.append_ #[46, 46] ty #[v, x]).run Tryz.prog w = .ok v' w' ∧ w'.ownsRow base 27 1 v' (rs ++ rows).length ((rs ++ rows).map encR) ∧ w.grownBy w' v.ownBlock ∧ (v'.ownBlock = v.ownBlock ∨ v'.ownBlock = some w.heap.size) := by
  obtain ⟨i0, hi, hz0, hz1, hz2⟩ := info_parts slice_info
  obtain ⟨A, cap, rfl, hA, _, hf⟩ := hg.form
  rcases hx with hx | hx
  · injection hx with e1 e2 e3
    subst e1 e3
    have e0 := List.eq_nil_of_length_eq_zero e2
    subst e0
    have hr := run_append_owned_none (P := Tryz.prog) (w := w) base 46 ty 27 i0 1 Tryz.underlying46 hi v rs.length _ hown
    exact ⟨v, w, hr, by simpa using hown, ⟨rfl, rfl, rfl, Nat.le_refl _, fun _ _ _ => rfl⟩, .inl rfl⟩
  · obtain ⟨b, off, rfl, _, hb, hc⟩ := hf.resolve_left (by omega)
    obtain ⟨g, cp, w', h1, h2, h3, h4, _⟩ := run_append_lies (P := Tryz.prog) w 46 ty base 27 i0 (.slice none 0 0) 1 24 Tryz.underlying46 hi hz0 hz1 hz2 rfl (by decide) v rs.length _ hown ⟨b, off, none⟩ rows.length cap (rows.map encR) (by simp) (fun j u hj => by
      have hjl : j < rows.length := by have := (List.getElem?_eq_some_iff.1 hj).1; simpa using this
      have hj' : some (encR rows[j]) = some u := by rw [← hj, List.getElem?_map, List.getElem?_eq_getElem hjl]; rfl
      rw [addr_add0, hc j hjl, hj']) (fun u hu => by
      obtain ⟨r, _, rfl⟩ := List.mem_map.1 hu
      rfl) hx (by unfold maxLen; omega) (by omega) hbase w.heap.size rfl
    refine ⟨_, w', h1, by rw [List.length_append, List.map_append]; exact h2, h3, ?_⟩
    rcases h4 with h4 | h4
    · exact .inl (by rw [h4]; rfl)
    · exact .inr (by rw [h4]; rfl)
theorem GridV.of_own {N : Nat → Prop} {w : World} {base : Nat} {v : Value} {rows : List (Option Addr × Nat × List Int)} (h : w.ownsRow base 27 1 v rows.length (rows.map encR)) (hr : RowsN N w rows) (hN : ∀ b, base ≤ b → N b) (hl : rows.length ≤ 1000000) : GridV N w v rows := by
  refine ⟨hl, ?_, hr⟩
  rcases h.2 with ⟨e, h0⟩ | ⟨g, cap, cur, e, h1, hg, h3, _⟩
  · exact ⟨none, 0, by rw [e, h0], fun _ => rfl, by omega, .inl h0⟩
  · refine ⟨_, cap, e, fun e => (by cases e), h3, .inr ⟨g, 0, rfl, hN g h1, Blk.lt (t := 27) hg, fun k hk => ?_⟩⟩
    subst e
    have := h.cells (g := g) rfl k (encR rows[k]) (by rw [List.getElem?_map, List.getElem?_eq_getElem hk]; rfl)
    rw [addr_add] at this
    rw [Nat.zero_add]
    exact this
theorem Row.off {W W' : World} {RA : Option Addr} {R : List Int} {S : Nat → Prop} (h : Row W RA R) (hk : Kept S W W') (hlt : ∀ b, RA = some b → 0 < R.length → ¬ S b.block) : Row W' RA R := by
  refine ⟨h.len, ?_⟩
  rcases Nat.eq_zero_or_pos R.length with h0 | h0
  · exact .inl h0
  · obtain ⟨b, off, h1, h2, h3⟩ := h.at_.resolve_left (by omega)
    refine .inr ⟨b, off, h1, Nat.lt_of_lt_of_le h2 hk.size, fun i hi => ?_⟩
    have hb : W'.heap[b]? = W.heap[b]? := hk.block b h2 (hlt _ h1 h0)
    rw [show W'.cell? ⟨b, off + i, none⟩ = W.cell? ⟨b, off + i, none⟩ by unfold World.cell?; rw [hb]]
    exact h3 i hi
section
variable {w W W' : World} {B g rr Mr Mb L : Nat} {r : Loop} {A : Option Addr} {T : List Nd} {c : Nat} {RA : Option Addr} {R : List Int} {rc : Nat}
end
end Go.Proofs.YtlipnnibagidiaaGreat

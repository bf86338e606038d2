/- What share.all holds while it goes over the pairs. -/
import Derived.Test.YtlipnnibagidiaaGreatRdB
namespace Go.Proofs.YtlipnnibagidiaaGreat
open Go.RowKit
open Go.Maps (Keyed)

theorem slice_info : (Tryz.prog.info? 27).map (fun i => (i.zero, i.size, i.bytes)) = some (some (.slice none 0 0), 1, 24) := by kernel_rfl
/-- append of a slice of rows to an own one. -/
theorem append_rows_run {N : Nat → Prop} {w : World} {base : Nat} {v x : Value} {rs rows : List (Option Addr × Nat × List Int)} (ty : TypeId) (hown : w.ownsRow base 27 1 v rs.length (rs.map encR)) (hg : GridV N w x rows) (hl : rs.length + rows.length ≤ 1000000) (hbase : base ≤ w.heap.size) (hx : x = .slice none 0 0 ∨ 0 < rows.length) :
    ∃ v' w', (Builtin.append_ #[46, 46] ty #[v, x]).run Tryz.prog w = .ok v' w' ∧ w'.ownsRow base 27 1 v' (rs ++ rows).length ((rs ++ rows).map encR) ∧ w.grownBy w' v.ownBlock ∧ (v'.ownBlock = v.ownBlock ∨ v'.ownBlock = some w.heap.size) := by
  obtain ⟨i0, hi, hz0, hz1, hz2⟩ := info_parts slice_info
  obtain ⟨A, cap, rfl, hA, _, hf⟩ := hg.form
  rcases hx with hx | hx
  · injection hx with e1 e2 e3
    subst e1 e3
    have e0 := List.eq_nil_of_length_eq_zero e2
    subst e0
    have hr := run_append_owned_none (P := Tryz.prog) (w := w) base 46 ty 27 i0 1 Tryz.underlying46 hi v rs.length _ hown
    exact ⟨v, w, hr, by simpa using hown, ⟨rfl, rfl, rfl, Nat.le_refl _, fun _ _ _ => rfl⟩, .inl rfl⟩
  · obtain ⟨b, off, rfl, _, hb, hc⟩ := hf.resolve_left (by omega)
    obtain ⟨g, cp, w', h1, h2, h3, h4, _⟩ := run_append_lies (P := Tryz.prog) w 46 ty base 27 i0 (.slice none 0 0) 1 24 Tryz.underlying46 hi hz0 hz1 hz2 rfl (by decide) v rs.length _ hown ⟨b, off, none⟩ rows.length cap (rows.map encR) (by simp) (fun j u hj => by
      have hjl : j < rows.length := by have := (List.getElem?_eq_some_iff.1 hj).1; simpa using this
      have hj' : some (encR rows[j]) = some u := by rw [← hj, List.getElem?_map, List.getElem?_eq_getElem hjl]; rfl
      rw [addr_add0, hc j hjl, hj']) (fun u hu => by
      obtain ⟨r, _, rfl⟩ := List.mem_map.1 hu
      rfl) hx (by unfold maxLen; omega) (by omega) hbase w.heap.size rfl
    refine ⟨_, w', h1, by rw [List.length_append, List.map_append]; exact h2, h3, ?_⟩
    rcases h4 with h4 | h4
    · exact .inl (by rw [h4]; rfl)
    · exact .inr (by rw [h4]; rfl)

theorem pair_key_in {x y : Int} (hx : In64 x) (hy : In64 y) : ∃ kl, keyOf Tryz.prog 122 (pairKey x y) = some kl :=
  ⟨_, Go.WideMaps.keyOf_pair pair_arr Tryz.underlying3 types_size (int_wf hx.1 hx.2) (int_wf hy.1 hy.2)⟩
theorem zero_rows (w : World) : (zeroValue 46).run Tryz.prog w = .ok (.slice none 0 0) w := by kernel_rfl
theorem GridV.of_own {N : Nat → Prop} {w : World} {base : Nat} {v : Value} {rows : List (Option Addr × Nat × List Int)} (h : w.ownsRow base 27 1 v rows.length (rows.map encR)) (hr : RowsN N w rows) (hN : ∀ b, base ≤ b → N b) (hl : rows.length ≤ 1000000) : GridV N w v rows := by
  refine ⟨hl, ?_, hr⟩
  rcases h.2 with ⟨e, h0⟩ | ⟨g, cap, cur, e, h1, hg, h3, _⟩
  · exact ⟨none, 0, by rw [e, h0], fun _ => rfl, by omega, .inl h0⟩
  · refine ⟨_, cap, e, fun e => (by cases e), h3, .inr ⟨g, 0, rfl, hN g h1, Blk.lt (t := 27) hg, fun k hk => ?_⟩⟩
    subst e
    have := h.cells (g := g) rfl k (encR rows[k]) (by rw [List.getElem?_map, List.getElem?_eq_getElem hk]; rfl)
    rw [addr_add] at this
    rw [Nat.zero_add]
    exact this
theorem Row.off {W W' : World} {RA : Option Addr} {R : List Int} {S : Nat → Prop} (h : Row W RA R) (hk : Kept S W W') (hlt : ∀ b, RA = some b → 0 < R.length → ¬ S b.block) : Row W' RA R := by
  refine ⟨h.len, ?_⟩
  rcases Nat.eq_zero_or_pos R.length with h0 | h0
  · exact .inl h0
  · obtain ⟨b, off, h1, h2, h3⟩ := h.at_.resolve_left (by omega)
    refine .inr ⟨b, off, h1, Nat.lt_of_lt_of_le h2 hk.size, fun i hi => ?_⟩
    have hb : W'.heap[b]? = W.heap[b]? := hk.block b h2 (hlt _ h1 h0)
    rw [show W'.cell? ⟨b, off + i, none⟩ = W.cell? ⟨b, off + i, none⟩ by unfold World.cell?; rw [hb]]
    exact h3 i hi
theorem Reader.far {w w' : World} {r : Nat} {A : Option Addr} {T : List Nd} {c M : Nat} {bad : Bool} {S : Nat → Prop} (h : Reader w r A T c M bad) (hk : Kept S w w') (h1 : ¬ S r) (h2 : ¬ S M) (ht : Tab w' A T) : Reader w' r A T c M bad := by
  obtain ⟨n, f, g1, g2⟩ := h.map
  exact ⟨h.blk.kept hk h1, ⟨n, f, g1.kept hk h2, g2⟩, ht, h.cap, h.ne⟩
/-- What the map by pairs holds. -/
def ByF (T : List Nd) (done : List (Int × Int)) (N : Nat → Prop) (w : World) (f : Value → Option Value) : Prop :=
  (∀ a b : Int, (a, b) ∉ done → f (pairKey a b) = none) ∧ ∀ p ∈ done, ∃ v rows, f (pairKey p.1 p.2) = some v ∧ GridV N w v rows ∧ rows.length ≤ 3 ∧ ∀ l, of2 T p.1 p.2 = some l → rows.map (fun r => r.2.2) = l ∧ ∃ a n c, v = .slice (some a) n c
theorem ByF.kept {T : List Nd} {done : List (Int × Int)} {N : Nat → Prop} {S : Nat → Prop} {w w' : World} {f : Value → Option Value} (h : ByF T done N w f) (hk : Kept S w w') (hN : ∀ b, b < w.heap.size → N b → ¬ S b) : ByF T done N w' f :=
  ⟨h.1, fun p hp => by obtain ⟨v, rows, h1, h2, h3, h4⟩ := h.2 p hp; exact ⟨v, rows, h1, h2.kept hk hN, h3, h4⟩⟩
theorem ByF.mono {T : List Nd} {done : List (Int × Int)} {N N' : Nat → Prop} {w : World} {f : Value → Option Value} (h : ByF T done N w f) (hN : ∀ b, b < w.heap.size → N b → N' b) : ByF T done N' w f :=
  ⟨h.1, fun p hp => by obtain ⟨v, rows, h1, h2, h3, h4⟩ := h.2 p hp; exact ⟨v, rows, h1, h2.mono hN, h3, h4⟩⟩
theorem ByF.nil (T : List Nd) (N : Nat → Prop) (w : World) : ByF T [] N w (fun _ => none) := ⟨fun _ _ _ => rfl, fun p hp => by cases hp⟩
theorem ByF.put {T : List Nd} {done : List (Int × Int)} {N : Nat → Prop} {w : World} {f : Value → Option Value} (h : ByF T done N w f) {x y : Int} {v : Value} {rows : List (Option Addr × Nat × List Int)} (hnew : (x, y) ∉ done) (hg : GridV N w v rows) (h3 : rows.length ≤ 3) (hl : ∀ l, of2 T x y = some l → rows.map (fun r => r.2.2) = l ∧ ∃ a n c, v = .slice (some a) n c) :
    ByF T (done ++ [(x, y)]) N w (putFn f (pairKey x y) v) := by
  refine ⟨fun a b hab => ?_, fun p hp => ?_⟩
  · rw [putFn_far _ _ _ _ (fun e => hab (by obtain ⟨rfl, rfl⟩ := pairKey_inj e; simp))]
    exact h.1 a b fun hm => hab (List.mem_append.2 (.inl hm))
  · rcases List.mem_append.1 hp with hp | hp
    · obtain ⟨u, rs, g1, g2⟩ := h.2 p hp
      refine ⟨u, rs, ?_, g2⟩
      rw [putFn_far _ _ _ _ (fun e => hnew (by obtain ⟨e1, e2⟩ := pairKey_inj e; rw [← e1, ← e2]; exact hp))]
      exact g1
    · obtain rfl := List.mem_singleton.1 hp
      exact ⟨v, rows, putFn_at _ _ _, hg, h3, hl⟩

/-- The boxes that stand: the table at B, the map's box at B + 2, the reader's box g, the pairs' box at L, the loop's blocks at L + 1, L + 2; Mb the map, rr the reader, Mr its map. -/
structure AS (w : World) (B g rr Mr Mb L : Nat) (r : Loop) (A : Option Addr) (T : List Nd) (c : Nat) (RA : Option Addr) (R : List Int) (rc : Nat) (W : World) : Prop where
  loop : LoopAt W (L + 2) (L + 1) r
  t1 : Blk W B 33 #[.slice A T.length c]
  t3 : Blk W (B + 2) 114 #[.map (some Mb)]
  t5 : Blk W g 159 #[.pointer (some ⟨rr, 0, none⟩)]
  x : Blk W L 27 #[.slice RA R.length rc]
  row : Row W RA R
  tab : Tab W A T
  t0 : Tab w A T
  mp : ∃ n f, MapAt Tryz.prog 51 W Mr n f ∧ PlaceF T T.length f
  kept : Below B w W
  hB : w.heap.size = B
  hg : B + 3 ≤ g ∧ g < L
  hr : B + 3 ≤ rr ∧ rr < L
  hMr : B + 3 ≤ Mr ∧ Mr < L
  hMb : B + 3 ≤ Mb ∧ Mb < L
  hRA : ∀ a, RA = some a → 0 < R.length → B + 3 ≤ a.block ∧ a.block < L ∧ a.block ≠ g ∧ a.block ≠ rr ∧ a.block ≠ Mr ∧ a.block ≠ Mb
  ne : g ≠ rr ∧ g ≠ Mr ∧ g ≠ Mb ∧ rr ≠ Mr ∧ rr ≠ Mb ∧ Mr ≠ Mb
/-- Blocks that may be written beside them. -/
def FreeA (B rr Mb L b : Nat) : Prop := b = B + 1 ∨ b = rr ∨ b = Mb ∨ L + 3 ≤ b
section
variable {w W W' : World} {B g rr Mr Mb L : Nat} {r : Loop} {A : Option Addr} {T : List Nd} {c : Nat} {RA : Option Addr} {R : List Int} {rc : Nat}
theorem AS.move {S : Nat → Prop} (h : AS w B g rr Mr Mb L r A T c RA R rc W) (hk : Kept S W W') (hS : ∀ b, b < W.heap.size → S b → FreeA B rr Mb L b) (ht : Tab W' A T) : AS w B g rr Mr Mb L r A T c RA R rc W' := by
  have hl := h.loop.lt
  have h1 := h.hg
  have h2 := h.hr
  have h3 := h.hMr
  have h4 := h.hMb
  have h5 := h.ne
  have hn : ∀ b, b < W.heap.size → ¬ FreeA B rr Mb L b → ¬ S b := fun b hb hf hs => hf (hS b hb hs)
  have hf : ∀ b, b < L + 3 → b ≠ B + 1 → b ≠ rr → b ≠ Mb → ¬ S b := fun b hb e1 e2 e3 => hn b (by omega) (by unfold FreeA; omega)
  obtain ⟨n, f, m1, m2⟩ := h.mp
  refine ⟨h.loop.kept hk (hf _ (by omega) (by omega) (by omega) (by omega)) (hf _ (by omega) (by omega) (by omega) (by omega)), h.t1.kept hk (hf _ (by omega) (by omega) (by omega) (by omega)), h.t3.kept hk (hf _ (by omega) (by omega) (by omega) (by omega)), h.t5.kept hk (hf _ (by omega) (by omega) (by omega) (by omega)), h.x.kept hk (hf _ (by omega) (by omega) (by omega) (by omega)), ?_, ht, h.t0, ⟨n, f, m1.kept hk (hf _ (by omega) (by omega) (by omega) (by omega)), m2⟩, ?_, h.hB, h.hg, h.hr, h.hMr, h.hMb, h.hRA, h.ne⟩
  · refine ⟨h.row.len, ?_⟩
    rcases Nat.eq_zero_or_pos R.length with h0 | h0
    · exact .inl h0
    · obtain ⟨b, off, e1, e2, e3⟩ := h.row.at_.resolve_left (by omega)
      have h6 := h.hRA _ e1 h0
      simp only at h6
      refine .inr ⟨b, off, e1, Nat.lt_of_lt_of_le e2 hk.size, fun i hi => ?_⟩
      have hb : W'.heap[b]? = W.heap[b]? := hk.block b e2 (hf _ (by omega) (by omega) (by omega) (by omega))
      rw [show W'.cell? ⟨b, off + i, none⟩ = W.cell? ⟨b, off + i, none⟩ by unfold World.cell?; rw [hb]]
      exact e3 i hi
  · refine h.kept.trans ⟨hk.os, hk.tape, hk.output, hk.size, fun k hkB => hk.block k (by omega) (hf _ (by omega) (by omega) (by omega) (by omega))⟩
theorem AS.putLoop (h : AS w B g rr Mr Mb L r A T c RA R rc W) (r' : Loop) : AS w B g rr Mr Mb L r' A T c RA R rc (W.putObj (L + 2) (.loop r')) := by
  have hl := h.loop.lt
  have h1 := h.hg
  have h2 := h.hr
  have h3 := h.hMr
  have h4 := h.hMb
  have hk := Kept.putObj W (L + 2) (.loop r')
  obtain ⟨n, f, m1, m2⟩ := h.mp
  exact ⟨h.loop.put r', h.t1.kept hk (by omega), h.t3.kept hk (by omega), h.t5.kept hk (by omega), h.x.kept hk (by omega), h.row.putObj h.loop.rec_ _, h.tab.putObj h.loop.rec_ _, h.t0, ⟨n, f, m1.kept hk (by omega), m2⟩, h.kept.trans (hk.below (by omega) (fun k e => by omega)), h.hB, h.hg, h.hr, h.hMr, h.hMb, h.hRA, h.ne⟩
end
end Go.Proofs.YtlipnnibagidiaaGreat

/- The clauses of all: share.all. -/
import Derived.Test.YtlipnnibagidiaaGreatRdC
import Derived.Test.YtlipnnibagidiaaGreatSwP
import Derived.Lib.SliceRun
namespace Go.Proofs.YtlipnnibagidiaaGreat
open Go.RowKit Go.Lib
open Go.Maps (Keyed)
attribute [local go_sem] Oper.semAt_some

theorem pairs_nodup : ∀ {l : List Int}, l.Pairwise (· < ·) → (pairsL l).Nodup
  | [], _ => by simp [pairsL]
  | x :: r, h => by
    obtain ⟨h1, h2⟩ := List.pairwise_cons.1 h
    rw [pairsL, List.nodup_append]
    refine ⟨?_, pairs_nodup h2, fun a ha b hb e => ?_⟩
    · have hr : r.Nodup := h2.imp fun h => by omega
      exact List.Pairwise.map _ (fun a b hab e => hab (by injection e)) hr
    · obtain ⟨y, hy, rfl⟩ := List.mem_map.1 ha
      subst e
      have := ((mem_pairs h2).1 hb).1
      have := h1 _ this
      simp at this
theorem any_isNone {α β : Type} (l : List α) (f : α → Option β) : (l.any fun p => (f p).isNone) = !(l.all fun p => (f p).isSome) := by
  induction l with
  | nil => rfl
  | cons a r ih =>
    rw [List.any_cons, List.all_cons, ih]
    cases f a <;> simp
/-- What all comes to. -/
def AllOut (T : List Nd) (w : World) (e : Ending) (w' : World) : Prop :=
  ∃ v m, e = .returned (.tuple #[v, m, .bool (laidB T)]) ∧ (∃ A n c, v = .slice A n c) ∧ (m = .map none ∨ ∃ Mb n f, m = .map (some Mb) ∧ MapAt Tryz.prog 122 w' Mb n f) ∧
    (laidB T = true → ∃ rows Mb n f, GridV (fun b => w.heap.size ≤ b) w' v rows ∧ rows.map (fun r => r.2.2) = allT T ∧ m = .map (some Mb) ∧ MapAt Tryz.prog 122 w' Mb n f ∧ ByF T (pairsL (nodesT T)) (fun b => w.heap.size ≤ b) w' f) ∧ Below w.heap.size w w'
/-- What goes on while the pairs are gone over. -/
structure AX (w : World) (B g rr Mr Mb L : Nat) (r : Loop) (A : Option Addr) (T : List Nd) (c : Nat) (RA : Option Addr) (R : List Int) (rc : Nat) (done rest : List (Int × Int)) (ov : Value) (rows : List (Option Addr × Nat × List Int)) (n : Nat) (f : Value → Option Value) (W : World) : Prop where
  s : AS w B g rr Mr Mb L r A T c RA R rc W
  rd : Reader W rr A T c Mr (done.any fun p => (of2 T p.1 p.2).isNone)
  t2 : Blk W (B + 1) 46 #[ov]
  own : W.ownsRow (L + 3) 27 1 ov rows.length (rows.map encR)
  rn : RowsN (fun b => L + 3 ≤ b ∧ some b ≠ ov.ownBlock) W rows
  by_ : MapAt Tryz.prog 122 W Mb n f
  byf : ByF T done (fun b => L + 3 ≤ b ∧ some b ≠ ov.ownBlock) W f
  n : n ≤ done.length
  rlen : rows.length ≤ 3 * done.length
  sum : (∀ p ∈ done, (of2 T p.1 p.2).isSome = true) → rows.map (fun r => r.2.2) = done.flatMap fun p => (of2 T p.1 p.2).getD []
  ps : pairsL R = done ++ rest

section
variable {w W W' : World} {B g rr Mr Mb L : Nat} {r : Loop} {A : Option Addr} {T : List Nd} {c : Nat} {RA : Option Addr} {R : List Int} {rc : Nat} {done rest : List (Int × Int)} {ov : Value} {rows : List (Option Addr × Nat × List Int)} {n : Nat} {f : Value → Option Value}
theorem AX.putLoop (h : AX w B g rr Mr Mb L r A T c RA R rc done rest ov rows n f W) (r' : Loop) : AX w B g rr Mr Mb L r' A T c RA R rc done rest ov rows n f (W.putObj (L + 2) (.loop r')) := by
  have hs := h.s.putLoop r'
  have hk := Kept.putObj W (L + 2) (.loop r')
  have h1 := h.s.hg
  have h2 := h.s.hr
  have h3 := h.s.hMr
  have h4 := h.s.hMb
  have hN : ∀ b, b < W.heap.size → (L + 3 ≤ b ∧ some b ≠ ov.ownBlock) → ¬ b = L + 2 := fun b _ hb e => by omega
  exact ⟨hs, h.rd.far hk (by omega) (by omega) hs.tab, h.t2.kept hk (by omega), own_kept h.own hk (fun g hg => by have := (h.own.lt g hg).1; omega), h.rn.kept hk hN, h.by_.kept hk (by omega), h.byf.kept hk hN, h.n, h.rlen, h.sum, h.ps⟩
theorem AX.below (h : AX w B g rr Mr Mb L r A T c RA R rc done rest ov rows n f W) (hb : Below W.heap.size W W') : AX w B g rr Mr Mb L r A T c RA R rc done rest ov rows n f W' := by
  have hk := Kept.of_below (S := fun _ => False) hb
  have hs := h.s.move hk (fun _ _ e => e.elim) (h.s.tab.below hb)
  exact ⟨hs, h.rd.keep hb, h.t2.below hb h.t2.lt, own_kept h.own hk (fun _ _ e => e), h.rn.kept hk (fun _ _ _ e => e), h.by_.below hb h.by_.lt, h.byf.kept hk (fun _ _ _ e => e), h.n, h.rlen, h.sum, h.ps⟩
/-- The results written, the loop's calls taken. -/
theorem AX.fin (h : AX w B g rr Mr Mb L r A T c RA R rc done rest ov rows n f W) (v m : Value) :
    ((W.setCell ⟨B + 1, 0, none⟩ v).setCell ⟨B + 2, 0, none⟩ m).heap[L + 1]? = some (.deferred (some [])) ∧
    (((W.setCell ⟨B + 1, 0, none⟩ v).setCell ⟨B + 2, 0, none⟩ m).putObj (L + 1) (.deferred none)).cell? ⟨B + 1, 0, none⟩ = some v ∧
    (((W.setCell ⟨B + 1, 0, none⟩ v).setCell ⟨B + 2, 0, none⟩ m).putObj (L + 1) (.deferred none)).cell? ⟨B + 2, 0, none⟩ = some m ∧
    Below B w (((W.setCell ⟨B + 1, 0, none⟩ v).setCell ⟨B + 2, 0, none⟩ m).putObj (L + 1) (.deferred none)) ∧
    Kept (fun b => b = B + 1 ∨ b = B + 2 ∨ b = L + 1) W (((W.setCell ⟨B + 1, 0, none⟩ v).setCell ⟨B + 2, 0, none⟩ m).putObj (L + 1) (.deferred none)) := by
  have h1 := h.s.hg
  have hl := h.s.loop.lt
  have k1 := Kept.set1 W (B + 1) 0 v
  have k2 := Kept.set1 (W.setCell ⟨B + 1, 0, none⟩ v) (B + 2) 0 m
  have k3 := Kept.putObj ((W.setCell ⟨B + 1, 0, none⟩ v).setCell ⟨B + 2, 0, none⟩ m) (L + 1) (.deferred none)
  have hk : Kept (fun b => b = B + 1 ∨ b = B + 2 ∨ b = L + 1) W (((W.setCell ⟨B + 1, 0, none⟩ v).setCell ⟨B + 2, 0, none⟩ m).putObj (L + 1) (.deferred none)) := ((k1.mono fun _ _ e => .inl e).trans (k2.mono fun _ _ e => .inr (.inl e))).trans (k3.mono fun _ _ e => .inr (.inr e))
  have b2 := ((h.t2.set_ 0 v).kept k2 (by omega)).kept k3 (by omega)
  have b3 := ((h.s.t3.kept k1 (by omega)).set_ 0 m).kept k3 (by omega)
  have c2 := b2.cell 0
  have c3 := b3.cell 0
  simp only [List.getElem?_toArray, List.getElem?_cons_zero, List.setIfInBounds_toArray, List.set_cons_zero] at c2 c3
  exact ⟨((h.s.loop.kept k1 (by omega) (by omega)).kept k2 (by omega) (by omega)).def_, c2, c3, h.s.kept.trans (hk.below (by omega) (fun k e => by omega)), hk⟩
theorem AX.new {wc : World} (hB : w.heap.size = B) (hbc : Below B w wc) (ht : Tab w A T) (t1 : Blk wc B 33 #[.slice A T.length c]) (t2 : Blk wc (B + 1) 46 #[.slice none 0 0]) (t3 : Blk wc (B + 2) 114 #[.map none])
    (hg : Blk wc g 159 #[.pointer (some ⟨rr, 0, none⟩)]) (hrd : Reader wc rr A T c Mr false) (hrow : Row wc RA R)
    (hRA : ∀ a, RA = some a → 0 < R.length → B + 3 ≤ a.block ∧ a.block < wc.heap.size ∧ a.block ≠ g ∧ a.block ≠ rr ∧ a.block ≠ Mr) (hg1 : B + 3 ≤ g) (hr1 : B + 3 ≤ rr) (hM1 : B + 3 ≤ Mr) (ne1 : g ≠ rr) (ne2 : g ≠ Mr) (ne3 : rr ≠ Mr) (r : Loop) :
    AX w B g rr Mr wc.heap.size (wc.heap.size + 1) r A T c RA R rc [] (pairsL R) (.slice none 0 0) [] 0 (fun _ => none)
      (((((wc.setCell ⟨B + 2, 0, none⟩ (.map (some wc.heap.size))).alloc (.map #[] 0)).alloc (.cells #[.slice RA R.length rc] 27)).alloc (.deferred (some []))).alloc (.loop r)) := by
  have hk0 := Kept.set1 wc (B + 2) 0 (.map (some wc.heap.size))
  have hsz0 : (wc.setCell ⟨B + 2, 0, none⟩ (.map (some wc.heap.size))).heap.size = wc.heap.size := by simp [World.setCell]
  have hb1 : Below wc.heap.size (wc.setCell ⟨B + 2, 0, none⟩ (.map (some wc.heap.size))) (((((wc.setCell ⟨B + 2, 0, none⟩ (.map (some wc.heap.size))).alloc (.map #[] 0)).alloc (.cells #[.slice RA R.length rc] 27)).alloc (.deferred (some []))).alloc (.loop r)) :=
    ((((Below.refl _ _).alloc (by rw [hsz0]; exact Nat.le_refl _) _).alloc (by simp) _).alloc (by simp; omega) _).alloc (by simp; omega) _
  have hk : Kept (fun b => b = B + 2) wc _ := hk0.trans (Kept.of_below (S := fun b => b = B + 2) (by rw [hsz0]; exact hb1))
  have hbw : Below B w (((((wc.setCell ⟨B + 2, 0, none⟩ (.map (some wc.heap.size))).alloc (.map #[] 0)).alloc (.cells #[.slice RA R.length rc] 27)).alloc (.deferred (some []))).alloc (.loop r)) := hbc.trans (hk.below (by have := t3.lt; omega) (fun k e => by omega))
  have hlt : Mr < wc.heap.size := by obtain ⟨_, _, m1, _⟩ := hrd.map; exact m1.lt
  have h3 := t3.lt
  have hrl := hrd.blk.lt
  have hgl := hg.lt
  obtain ⟨m, f, m1, m2⟩ := hrd.map
  have htab : Tab _ A T := ht.below (by rw [hB]; exact hbw)
  have hl := LoopAt.new (((wc.setCell ⟨B + 2, 0, none⟩ (.map (some wc.heap.size))).alloc (.map #[] 0)).alloc (.cells #[.slice RA R.length rc] 27)) r
  rw [show (((wc.setCell ⟨B + 2, 0, none⟩ (.map (some wc.heap.size))).alloc (.map #[] 0)).alloc (.cells #[.slice RA R.length rc] 27)).heap.size = wc.heap.size + 1 + 1 by simp [World.setCell]] at hl
  have ht3 := t3.set_ 0 (.map (some wc.heap.size))
  simp only [List.setIfInBounds_toArray, List.set_cons_zero] at ht3
  have hmade := (((MapAt.made Tryz.prog 122 (wc.setCell ⟨B + 2, 0, none⟩ (.map (some wc.heap.size)))).alloc (.cells #[.slice RA R.length rc] 27)).alloc (.deferred (some []))).alloc (.loop r)
  rw [hsz0] at hmade
  refine ⟨⟨hl, t1.kept hk (by omega), (((ht3.alloc _).alloc _).alloc _).alloc _, hg.kept hk (by omega), ((Blk.new_at (by simp [World.setCell]) _ _).alloc _).alloc _, hrow.off hk (fun a e hp => by have := hRA a e hp; omega), htab, ht, ⟨m, f, m1.kept hk (by omega), m2⟩, hbw, hB, ⟨hg1, by omega⟩, ⟨hr1, by omega⟩, ⟨hM1, by omega⟩, ⟨by omega, by omega⟩, fun a e hp => ?_, ⟨ne1, ne2, by omega, ne3, by omega, by omega⟩⟩,
    hrd.far hk (by omega) (by omega) htab, t2.kept hk (by omega), World.ownsRow_nil _ _ _ _, fun x hx => (by cases hx), hmade, ByF.nil _ _ _, Nat.le_refl _, Nat.le_refl _, fun _ => rfl, rfl⟩
  have := hRA a e hp
  omega
/-- Behind the clauses of two. -/
structure AY (w : World) (B g rr Mr Mb L : Nat) (r : Loop) (A : Option Addr) (T : List Nd) (c : Nat) (RA : Option Addr) (R : List Int) (rc : Nat) (done rest : List (Int × Int)) (x y : Int) (ov v : Value) (rows rv : List (Option Addr × Nat × List Int)) (n : Nat) (f : Value → Option Value) (W : World) : Prop where
  s : AS w B g rr Mr Mb L r A T c RA R rc W
  rd : Reader W rr A T c Mr ((done ++ [(x, y)]).any fun p => (of2 T p.1 p.2).isNone)
  t2 : Blk W (B + 1) 46 #[ov]
  own : W.ownsRow (L + 3) 27 1 ov rows.length (rows.map encR)
  rn : RowsN (fun b => L + 3 ≤ b ∧ some b ≠ ov.ownBlock) W rows
  by_ : MapAt Tryz.prog 122 W Mb n f
  byf : ByF T done (fun b => L + 3 ≤ b ∧ some b ≠ ov.ownBlock) W f
  n : n ≤ done.length
  rlen : rows.length ≤ 3 * done.length
  sum : (∀ p ∈ done, (of2 T p.1 p.2).isSome = true) → rows.map (fun r => r.2.2) = done.flatMap fun p => (of2 T p.1 p.2).getD []
  ps : pairsL R = done ++ (x, y) :: rest
  gv : GridV (fun b => L + 3 ≤ b ∧ some b ≠ ov.ownBlock) W v rv
  gl : ∀ l, of2 T x y = some l → rv.map (fun r => r.2.2) = l ∧ ∃ a n c, v = .slice (some a) n c
  g3 : rv.length ≤ 3
  gn : v = .slice none 0 0 ∨ 0 < rv.length
theorem AX.of {x y : Int} (h : AX w B g rr Mr Mb L r A T c RA R rc done ((x, y) :: rest) ov rows n f W) {v : Value} {rv : List (Option Addr × Nat × List Int)} (hg : GridV (fun b => W.heap.size ≤ b) W' v rv) (hl : ∀ l, of2 T x y = some l → rv.map (fun r => r.2.2) = l ∧ ∃ a n c, v = .slice (some a) n c) (h3 : rv.length ≤ 3) (hn : v = .slice none 0 0 ∨ 0 < rv.length)
    (hr : Reader W' rr A T c Mr ((done.any fun p => (of2 T p.1 p.2).isNone) || (of2 T x y).isNone)) (hk : Kept (fun b => b = rr) W W') : AY w B g rr Mr Mb L r A T c RA R rc done rest x y ov v rows rv n f W' := by
  have h2 := h.s.hr
  have h4 := h.s.hMb
  have h5 := h.s.ne
  have hN : ∀ b, b < W.heap.size → (L + 3 ≤ b ∧ some b ≠ ov.ownBlock) → ¬ b = rr := fun b _ hb e => by omega
  refine ⟨h.s.move hk (fun b _ e => .inr (.inl e)) hr.tab, by simpa using hr, h.t2.kept hk (by omega), own_kept h.own hk (fun g hg => by have := (h.own.lt g hg).1; omega), h.rn.kept hk hN, h.by_.kept hk (by omega), h.byf.kept hk hN, h.n, h.rlen, h.sum, h.ps, ?_, hl, h3, hn⟩
  refine hg.mono fun b _ hb => ⟨?_, fun e => ?_⟩
  · have := h.s.loop.lt
    omega
  · have := (h.own.lt b e.symm).2
    omega
theorem AY.put {x y : Int} {v : Value} {rv : List (Option Addr × Nat × List Int)} (h : AY w B g rr Mr Mb L r A T c RA R rc done rest x y ov v rows rv n f W) (hnd : (pairsL R).Nodup)
    {W2 W3 : World} {ov' : Value} (hm : MapAt Tryz.prog 122 W2 Mb (n + 1) (putFn f (pairKey x y) v)) (hgm : W.grownBy W2 (some Mb))
    (ho : W3.ownsRow (L + 3) 27 1 ov' (rows ++ rv).length ((rows ++ rv).map encR)) (hgo : W2.grownBy W3 ov.ownBlock) (hob : ov'.ownBlock = ov.ownBlock ∨ ov'.ownBlock = some W2.heap.size) :
    AX w B g rr Mr Mb L r A T c RA R rc (done ++ [(x, y)]) rest ov' (rows ++ rv) (n + 1) (putFn f (pairKey x y) v) (W3.setCell ⟨B + 1, 0, none⟩ ov') := by
  have h1 := h.s.hg
  have h2 := h.s.hr
  have h3 := h.s.hMr
  have h4 := h.s.hMb
  have h5 := h.s.ne
  have hll := h.s.loop.lt
  have k1 : Kept (fun b => b = Mb) W W2 := (Kept.refl _ W).grown hgm (fun k e => .inl (by injection e with e; exact e.symm))
  have k2 : Kept (fun b => some b = ov.ownBlock) W2 W3 := (Kept.refl _ W2).grown hgo (fun k e => .inl e.symm)
  have k3 := Kept.set1 W3 (B + 1) 0 ov'
  have ho1 : ∀ b, some b = ov.ownBlock → L + 3 ≤ b := fun b e => (h.own.lt b e.symm).1
  have ho3 : ∀ b, ov'.ownBlock = some b → L + 3 ≤ b := fun b e => (ho.lt b e).1
  have hnew : (x, y) ∉ done := fun hm => by
    rw [h.ps, List.nodup_append] at hnd
    exact hnd.2.2 (x, y) hm (x, y) (by simp) rfl
  have t1 : Tab W2 A T := h.s.tab.far (fun i => by
    obtain ⟨es, cl, e⟩ := h.by_.obj
    unfold World.cell?
    rw [e]) k1
  have hs1 := h.s.move k1 (fun b _ e => .inr (.inr (.inl e))) t1
  have t2' : Tab W3 A T := h.s.t0.below (by
    rw [h.s.hB]
    exact (h.s.kept.trans (k1.below (by omega) (fun k e => by omega))).trans (k2.below (by have := k1.size; omega) (fun k e => by have := ho1 k e; omega)))
  have hs2 := hs1.move k2 (fun b _ e => .inr (.inr (.inr (ho1 b e)))) t2'
  have b2 : Blk W3 (B + 1) 46 #[ov] := (h.t2.kept k1 (by omega)).kept k2 (fun e => by have := ho1 _ e; omega)
  have t3' : Tab (W3.setCell ⟨B + 1, 0, none⟩ ov') A T := hs2.tab.far (fun i => b2.small i) k3
  have hN1 : ∀ b, b < W.heap.size → (L + 3 ≤ b ∧ some b ≠ ov.ownBlock) → ¬ b = Mb := fun b _ hb e => by omega
  have hN2 : ∀ b, b < W2.heap.size → (L + 3 ≤ b ∧ some b ≠ ov.ownBlock) → ¬ some b = ov.ownBlock := fun b _ hb => hb.2
  have hN2' : ∀ b, b < W3.heap.size → (L + 3 ≤ b ∧ some b ≠ ov'.ownBlock) → ¬ b = B + 1 := fun b _ hb e => by omega
  have hmo : ∀ b, b < W2.heap.size → (L + 3 ≤ b ∧ some b ≠ ov.ownBlock) → (L + 3 ≤ b ∧ some b ≠ ov.ownBlock ∧ some b ≠ ov'.ownBlock) := fun b hb hc => ⟨hc.1, hc.2, fun e => by
    rcases hob with hob | hob
    · exact hc.2 (e.trans hob)
    · rw [hob] at e
      injection e with e
      omega⟩
  have hN3 : ∀ b, b < W2.heap.size → (L + 3 ≤ b ∧ some b ≠ ov.ownBlock ∧ some b ≠ ov'.ownBlock) → ¬ some b = ov.ownBlock := fun b _ hb => hb.2.1
  have hm3 : ∀ b, b < W3.heap.size → (L + 3 ≤ b ∧ some b ≠ ov.ownBlock ∧ some b ≠ ov'.ownBlock) → (L + 3 ≤ b ∧ some b ≠ ov'.ownBlock) := fun b _ hb => ⟨hb.1, hb.2.2⟩
  have hbt2 := b2.set_ 0 ov'
  simp only [List.setIfInBounds_toArray, List.set_cons_zero] at hbt2
  refine ⟨hs2.move k3 (fun b _ e => .inl e) t3', ((h.rd.far k1 (by omega) (by omega) t1).far k2 (fun e => by have := ho1 _ e; omega) (fun e => by have := ho1 _ e; omega) t2').far k3 (by omega) (by omega) t3', hbt2,
    own_kept ho k3 (fun g hg => by have := ho3 g hg; omega), ?_, (hm.kept k2 (fun e => by have := ho1 _ e; omega)).kept k3 (by omega), ?_, by have := h.n; simp; omega, by have := h.rlen; have := h.g3; simp; omega, fun hall => ?_, by rw [h.ps]; simp⟩
  · exact (((((h.rn.kept k1 hN1).append (h.gv.rows.kept k1 hN1)).mono hmo).kept k2 hN3).mono hm3).kept k3 hN2'
  · exact (((((h.byf.kept k1 hN1).put hnew (h.gv.kept k1 hN1) h.g3 h.gl).mono hmo).kept k2 hN3).mono hm3).kept k3 hN2'
  · have h1 := h.sum fun p hp => hall p (List.mem_append.2 (.inl hp))
    have h2 := hall (x, y) (by simp)
    obtain ⟨l, hl⟩ := Option.isSome_iff_exists.1 h2
    rw [List.map_append, h1, (h.gl l hl).1, List.flatMap_append]
    simp only [List.flatMap_cons, List.flatMap_nil, List.append_nil]
    rw [show of2 T x y = some l from hl]
    rfl
end
set_option maxRecDepth 100000 in
set_option maxHeartbeats 8000000 in
theorem all_ok {T : List Nd} {w : World} {A : Option Addr} (c : Nat) (hc : T.length ≤ c) (h : Tab w A T) (hl : (nodesT T).length ≤ 500) :
    Calls Tryz.prog 66 #[.agg #[.slice A T.length c]] w (AllOut T w) := by
  have hlen := h.len
  have hmm := @run_makeMap Tryz.prog
  obtain ⟨w0, hw0⟩ : ∃ w0, ((w.alloc (.cells #[.slice A T.length c] 33)).alloc (.cells #[.slice none 0 0] 46)).alloc (.cells #[.map none] 114) = w0 := ⟨_, rfl⟩
  have HS0 : Hid (w0.heap.size = w.heap.size + 3) := Lib.hid (by rw [← hw0]; simp)
  have HB0 : Hid (Below w.heap.size w w0) := Lib.hid (by rw [← hw0]; exact (((Below.refl _ w).alloc (Nat.le_refl _) _).alloc (by simp) _).alloc (by simp; omega) _)
  have HT0 : Hid (Blk w0 w.heap.size 33 #[.slice A T.length c]) := Lib.hid (by rw [← hw0]; exact ((Blk.new w _ _).alloc _).alloc _)
  have HO0 : Hid (Blk w0 (w.heap.size + 1) 46 #[.slice none 0 0]) := Lib.hid (by rw [← hw0]; exact (Blk.new_at (by simp) _ _).alloc _)
  have HM0 : Hid (Blk w0 (w.heap.size + 1 + 1) 114 #[.map none]) := Lib.hid (by rw [← hw0]; exact Blk.new_at (by simp) _ _)
  have a0 := HT0.out.cell 0
  simp only [List.getElem?_toArray, List.getElem?_cons_zero] at a0
  have H := Lib.hid h
  have HC := Lib.hid hc
  have HNl := Lib.hid hl
  have HGl : Hid (laidB T = (coreB T && eqsB T && okB T)) := Lib.hid rfl
  clear h hc hl
  refine callsIn_wide.1 (callsIn_of_wp_marks (n := 2) Tryz.func66 rfl trivial (wpIn_wide.2 ?_) rfl)
  simp only [Tryz.ntmps66, List.size_toArray, List.length_cons, List.length_nil, Nat.reduceAdd, Nat.reduceSub, Array.replicate_succ, Array.replicate_zero, List.push_toArray, List.append_toArray, List.nil_append, List.cons_append]
  go_wp2_with fail
  refine (score_ok c HC.out (H.out.below HB0.out)).mono ?_
  rintro e w1 ⟨rfl, hb1⟩
  have HB1 := Lib.hid (HB0.out.trans (hb1.mono HB0.out.size))
  have HT1 := Lib.hid (HT0.out.below hb1 HT0.out.lt)
  have HO1 := Lib.hid (HO0.out.below hb1 HO0.out.lt)
  have HM1 := Lib.hid (HM0.out.below hb1 HM0.out.lt)
  have HSZ1 : Hid (w.heap.size + 3 ≤ w1.heap.size) := Lib.hid (by rw [← HS0.out]; exact hb1.size)
  have a1 := HT1.out.cell 0
  have f2 := HO1.out.frozen 0
  have f3 := HM1.out.frozen 0
  have b2 := HO1.out.cell 0
  have b3 := HM1.out.cell 0
  simp only [List.getElem?_toArray, List.getElem?_cons_zero] at a1 b2 b3
  clear hb1 a0 hw0
  generalize hcb : coreB T = cb at *
  cases cb with
  | false =>
    have HLf : Hid (laidB T = false) := Lib.hid (by rw [HGl.out]; rfl)
    clear hcb
    go_wp2
    have x2 := ((HO1.out.set_ 0 (.slice none 0 0)).far (p := ⟨w.heap.size + 1 + 1, 0, none⟩) (by simp) (.map none)).cell 0
    have x3 := ((HM1.out.far (p := ⟨w.heap.size + 1, 0, none⟩) (by simp) (.slice none 0 0)).set_ 0 (.map none)).cell 0
    simp only [List.getElem?_toArray, List.getElem?_cons_zero, List.setIfInBounds_toArray, List.set_cons_zero] at x2 x3
    refine ⟨.tuple #[.slice none 0 0, .map none, .bool false], by simp [results, Tryz.results66, go_sem, x2, x3], ?_⟩
    exact ⟨.slice none 0 0, .map none, by rw [HLf.out], ⟨none, 0, 0, rfl⟩, .inl rfl, fun e => (by rw [HLf.out] at e; cases e), (HB1.out.setCell (by simp) _).setCell (by simp; omega) _⟩
  | true =>
    have HCT := Lib.hid (coreB_iff.1 hcb)
    clear hcb
    have KR := Lib.hid (fun (W : World) (hW : Below w1.heap.size w1 W) => read_ok c HC.out ((H.out.below HB1.out).below hW) HCT.out.ok)
    have KN := Lib.hid (fun (W : World) (hW : Below w1.heap.size w1 W) => nodes_ok c ((H.out.below HB1.out).below hW) HCT.out.ok)
    have HN5 : Hid ((nodesT T).length ≤ 100000) := Lib.hid (by have := HNl.out; omega)
    go_upto_region 3 with fail
    go_cut [5, 6] from 15 to 18 (fun v5 v6 wc => ∃ g rr Mr RA rc, v5 = .pointer (some ⟨g, 0, none⟩) ∧ v6 = .slice RA (nodesT T).length rc ∧ Blk wc g 159 #[.pointer (some ⟨rr, 0, none⟩)] ∧ Reader wc rr A T c Mr false ∧ Row wc RA (nodesT T) ∧ (nodesT T).length ≤ rc ∧ (∀ a, RA = some a → 0 < (nodesT T).length → w1.heap.size ≤ a.block ∧ a.block < wc.heap.size ∧ a.block ≠ g ∧ a.block ≠ rr ∧ a.block ≠ Mr) ∧ w1.heap.size ≤ g ∧ w1.heap.size ≤ rr ∧ w1.heap.size ≤ Mr ∧ g ≠ rr ∧ g ≠ Mr ∧ rr ≠ Mr ∧ Below w1.heap.size w1 wc)
    case first =>
      have X1 := Lib.hid (show Below w1.heap.size w1 w1.drew from below_drewN (Below.refl _ w1) 1)
      have X2 := Lib.hid (show Below w1.heap.size w1 (w1.alloc (.cells #[.pointer none] 159)).drew from below_drewN ((Below.refl _ w1).alloc (Nat.le_refl _) _) 1)
      have X3 := Lib.hid (show Blk (w1.alloc (.cells #[.pointer none] 159)).drew w1.heap.size 159 #[.pointer none] from Blk.new w1 _ _)
      have HLt := Lib.hid HT1.out.lt
      go_region_held3 (fun w' => w'.cell? ⟨w.heap.size, 0, none⟩ = some (.slice A T.length c)) (go_keep) ((first
        | (go_at_call 106; refine (KR.out _ X1.out).mono ?_; rintro e w2 ⟨rr, Mr, rfl, hr, h1, h2, hb⟩; have HB2 := Lib.hid (X1.out.trans (hb.mono X1.out.size)); have HR2 := Lib.hid hr; have HI2 : Hid (w1.heap.size ≤ rr ∧ w1.heap.size ≤ Mr) := Lib.hid (And.intro (Nat.le_trans X1.out.size h1) (Nat.le_trans X1.out.size h2)); have HP2 := Lib.hid (And.intro hr.blk.lt (show Mr < w2.heap.size by obtain ⟨_, _, m1, _⟩ := hr.map; exact m1.lt)); have a2 := (HB2.out.cell (p := ⟨w.heap.size, 0, none⟩) HLt.out).trans a1; clear hr h1 h2 hb)
        | (go_at_call 106; refine (KR.out _ X2.out).mono ?_; rintro e w2 ⟨rr, Mr, rfl, hr, h1, h2, hb⟩; have HB2f := Lib.hid (X2.out.trans (hb.mono X2.out.size)); have HR2 := Lib.hid hr; have HG := Lib.hid (X3.out.below hb X3.out.lt); have HI2 : Hid (w1.heap.size + 1 ≤ rr ∧ w1.heap.size + 1 ≤ Mr) := Lib.hid (And.intro (by simpa using h1) (by simpa using h2)); have HP2 := Lib.hid (And.intro hr.blk.lt (show Mr < w2.heap.size by obtain ⟨_, _, m1, _⟩ := hr.map; exact m1.lt)); have a2 := (HB2f.out.cell (p := ⟨w.heap.size, 0, none⟩) HLt.out).trans a1; clear hr h1 h2 hb)
        | (go_at_call 54; refine (KN.out _ HB2.out).mono ?_; rintro e w3 ⟨v, rfl, hv, hb⟩; obtain ⟨RA, rc, rfl⟩ := own_slice hv; have HV3 := Lib.hid hv; have HB23 := Lib.hid hb; have HB3 := Lib.hid (HB2.out.trans (hb.mono HB2.out.size)); have a3 := (HB3.out.cell (p := ⟨w.heap.size, 0, none⟩) HLt.out).trans a1; clear hv hb)
        | (go_at_call 54; refine (KN.out _ (HB2.out.alloc HB2.out.size (.cells #[.pointer none] 159))).mono ?_; rintro e w3 ⟨v, rfl, hv, hb⟩; obtain ⟨RA, rc, rfl⟩ := own_slice hv; have HV3 := Lib.hid hv; have HB23 := Lib.hid hb; have HBa := Lib.hid (HB2.out.alloc HB2.out.size (.cells #[.pointer none] 159)); have HB3 := Lib.hid (HBa.out.trans (hb.mono HBa.out.size)); have HGa := Lib.hid ((Blk.new w2 159 #[.pointer none]).below hb (by simp)); have HB2x := Lib.hid HB2.out.size; have a3 := (HB3.out.cell (p := ⟨w.heap.size, 0, none⟩) HLt.out).trans a1; have HB4 := Lib.hid (HB3.out.setCell (p := ⟨w2.heap.size, 0, none⟩) (by have := HB2x.out; first | (simp; omega) | simp) (.pointer (some ⟨rr, 0, none⟩))); have a4 := (HB4.out.cell (p := ⟨w.heap.size, 0, none⟩) HLt.out).trans a1; have g0 := HGa.out.cell 0; have gf := HGa.out.frozen 0; simp only [List.getElem?_toArray, List.getElem?_cons_zero] at g0; clear hv hb)
        | (go_at_call 54; refine (KN.out _ HB2f.out).mono ?_; rintro e w3 ⟨v, rfl, hv, hb⟩; obtain ⟨RA, rc, rfl⟩ := own_slice hv; have HV3 := Lib.hid hv; have HB23 := Lib.hid hb; have HB3 := Lib.hid (HB2f.out.trans (hb.mono HB2f.out.size)); have HG3 := Lib.hid (HG.out.below hb HG.out.lt); have HB2x := Lib.hid HB2f.out.size; have a3 := (HB3.out.cell (p := ⟨w.heap.size, 0, none⟩) HLt.out).trans a1; have HB4 := Lib.hid (HB3.out.setCell (p := ⟨w1.heap.size, 0, none⟩) (by have := HB2x.out; first | (simp; omega) | simp) (.pointer (some ⟨rr, 0, none⟩))); have a4 := (HB4.out.cell (p := ⟨w.heap.size, 0, none⟩) HLt.out).trans a1; have g0 := HG3.out.cell 0; have gf := HG3.out.frozen 0; simp only [List.getElem?_toArray, List.getElem?_cons_zero] at g0; clear hv hb)))
      all_goals go_wp2
      all_goals go_meet
      · have hrw := OwnL.row HV3.out HN5.out
        have hb := (Below.refl w3.heap.size w3).alloc (Nat.le_refl _) (.cells #[.pointer (some ⟨rr, 0, none⟩)] 159)
        have h1 := HB3.out.size
        have h2 := HB2.out.size
        have h3 := HB23.out.size
        have h4 := HI2.out
        have h5 := HP2.out
        have h6 := HR2.out.ne
        refine ⟨w3.heap.size, rr, Mr, RA, rc, rfl, rfl, Blk.new _ _ _, (HR2.out.keep HB23.out).keep hb, hrw.1.below hb, hrw.2.2.1, fun a e hp => ?_, h1, h4.1, h4.2, by omega, by omega, fun e => h6 e.symm, HB3.out.trans (hb.mono h1)⟩
        have := hrw.2.1 a e hp
        rw [World.size_alloc]
        omega
      · have hrw := OwnL.row HV3.out HN5.out
        have hb : Below w2.heap.size w2 w3 := ((Below.refl w2.heap.size w2).alloc (Nat.le_refl _) (.cells #[.pointer none] 159)).trans (HB23.out.mono (by simp))
        have hb4 := hb.setCell (p := ⟨w2.heap.size, 0, none⟩) (Nat.le_refl _) (.pointer (some ⟨rr, 0, none⟩))
        have hk := Kept.set1 w3 w2.heap.size 0 (.pointer (some ⟨rr, 0, none⟩))
        have h1 := HB3.out.size
        have h2 := HB2.out.size
        have h4 := HI2.out
        have h5 := HP2.out
        have h6 := HR2.out.ne
        have hg5 := HGa.out.set_ 0 (.pointer (some ⟨rr, 0, none⟩))
        simp only [List.setIfInBounds_toArray, List.set_cons_zero] at hg5
        refine ⟨w2.heap.size, rr, Mr, RA, rc, rfl, rfl, hg5, HR2.out.keep hb4, hrw.1.off hk (fun a e hp => ?_), hrw.2.2.1, fun a e hp => ?_, h2, h4.1, h4.2, by omega, by omega, fun e => h6 e.symm, HB4.out⟩
        · have := hrw.2.1 a e hp
          rw [World.size_alloc] at this
          omega
        · have := hrw.2.1 a e hp
          rw [World.size_alloc] at this
          have h7 := hk.size
          omega
      · have hrw := OwnL.row HV3.out HN5.out
        have hk := Kept.set1 w3 w1.heap.size 0 (.pointer (some ⟨rr, 0, none⟩))
        have h1 := HB3.out.size
        have h2 := HB2f.out.size
        have h3 := HG.out.lt
        have h4 := HI2.out
        have h5 := HP2.out
        have h6 := HR2.out.ne
        have hg5 := HG3.out.set_ 0 (.pointer (some ⟨rr, 0, none⟩))
        simp only [List.setIfInBounds_toArray, List.set_cons_zero] at hg5
        refine ⟨w1.heap.size, rr, Mr, RA, rc, rfl, rfl, hg5, (HR2.out.keep HB23.out).far hk (by omega) (by omega) ((H.out.below HB1.out).below HB4.out), hrw.1.off hk (fun a e hp => ?_), hrw.2.2.1, fun a e hp => ?_, Nat.le_refl _, by omega, by omega, by omega, by omega, fun e => h6 e.symm, HB4.out⟩
        · have := hrw.2.1 a e hp
          omega
        · have := hrw.2.1 a e hp
          have h7 := hk.size
          omega
    case rest =>
      obtain ⟨g, rr, Mr, RA, rc, rfl, rfl, hg, hrd, hrow, hrc, hRA, hg1, hr1, hM1, ne1, ne2, ne3, hbc⟩ := hcut
      have HG := Lib.hid hg
      have HRD := Lib.hid hrd
      have HROW := Lib.hid hrow
      have HRc := Lib.hid hrc
      have HRA := Lib.hid hRA
      have HNE := Lib.hid (And.intro hg1 (And.intro hr1 (And.intro hM1 (And.intro ne1 (And.intro ne2 ne3)))))
      have HBC := Lib.hid (HB1.out.trans (hbc.mono HB1.out.size))
      have HTC := Lib.hid (HT1.out.below hbc HT1.out.lt)
      have HOC := Lib.hid (HO1.out.below hbc HO1.out.lt)
      have HMC := Lib.hid (HM1.out.below hbc HM1.out.lt)
      have HSC : Hid (w.heap.size + 3 ≤ wc.heap.size) := Lib.hid (Nat.le_trans HSZ1.out hbc.size)
      have m3 := HMC.out.cell 0
      have mf := HMC.out.frozen 0
      have hltM := HMC.out.lt
      simp only [List.getElem?_toArray, List.getElem?_cons_zero] at m3
      clear hg hrd hrow hrc hRA hg1 hr1 hM1 ne1 ne2 ne3 hbc a1 f2 f3 b2 b3 KR KN
      go_wp2_with (go_at_call 56; refine (pairs_ok _ _ _).mono ?_; rintro e w3 ⟨rfl, rfl⟩)
      have hG0 : ∀ r, AX w w.heap.size g rr Mr wc.heap.size (wc.heap.size + 1) r A T c RA (nodesT T) rc [] (pairsL (nodesT T)) (.slice none 0 0) [] 0 (fun _ => none)
          (((((wc.setCell ⟨w.heap.size + 2, 0, none⟩ (.map (some wc.heap.size))).alloc (.map #[] 0)).alloc (.cells #[.slice RA (nodesT T).length rc] 27)).alloc (.deferred (some []))).alloc (.loop r)) := by
        have hn := HNE.out
        have hz := HSZ1.out
        exact AX.new rfl HBC.out H.out HTC.out HOC.out HMC.out HG.out HRD.out HROW.out (fun a e hp => by have := HRA.out a e hp; omega) (by omega) (by omega) (by omega) hn.2.2.2.1 hn.2.2.2.2.1 hn.2.2.2.2.2
      have HNd : Hid ((pairsL (nodesT T)).Nodup) := Lib.hid (pairs_nodup (nodes_sorted T))
      have HSh : Hid (∀ p ∈ pairsL (nodesT T), ∃ k1 k2 : Nat, p = ((k1 : Int), (k2 : Int)) ∧ k1 < T.length ∧ k2 < T.length) := Lib.hid (fun p hp => by
        obtain ⟨h1, h2, _⟩ := nodes_pairs hp
        obtain ⟨x, y⟩ := p
        exact ⟨x.toNat, y.toNat, by rw [Int.toNat_of_nonneg h1.lo, Int.toNat_of_nonneg h2.lo], by have := h1.hi; have := h1.lo; simp only at *; omega, by have := h2.hi; have := h2.lo; simp only at *; omega⟩)
      have HPn : Hid ((pairsL (nodesT T)).length ≤ 125000) := Lib.hid (by
        have h1 := pairsL_len (nodesT T)
        have h2 : (nodesT T).length * ((nodesT T).length - 1) ≤ 500 * 499 := Nat.mul_le_mul HNl.out (by have := HNl.out; omega)
        omega)
      obtain ⟨B, hB⟩ : ∃ B, w.heap.size = B := ⟨_, rfl⟩
      have HBs := Lib.hid hB
      obtain ⟨W3, hW3⟩ : ∃ W3, ((wc.setCell ⟨w.heap.size + 1 + 1, 0, none⟩ (.map (some wc.heap.size))).alloc (.map #[] 0)).alloc (.cells #[.slice RA (nodesT T).length rc] 27) = W3 := ⟨_, rfl⟩
      obtain ⟨Mb, hMb⟩ : ∃ Mb, wc.heap.size = Mb := ⟨_, rfl⟩
      have hs3 : W3.heap.size = Mb + 1 + 1 := by rw [← hW3, ← hMb]; simp [World.setCell]
      change ∀ r, AX w w.heap.size g rr Mr wc.heap.size (wc.heap.size + 1) r A T c RA (nodesT T) rc [] (pairsL (nodesT T)) (.slice none 0 0) [] 0 (fun _ => none) (((((wc.setCell ⟨w.heap.size + 1 + 1, 0, none⟩ (.map (some wc.heap.size))).alloc (.map #[] 0)).alloc (.cells #[.slice RA (nodesT T).length rc] 27)).alloc (.deferred (some []))).alloc (.loop r)) at hG0
      simp only [hW3] at hG0 ⊢
      rw [hB, hMb] at hG0
      rw [hB, hMb]
      clear hW3 m3 mf hltM HG HRD HROW HOC HMC HTC HRA HNE HSC HBC HT1 HO1 HM1 HSZ1
      refine wpIn_wide.1 (rangeFunc_wide (n := 2) (gf := 93) rfl (fun _ _ => by simp [invoke, go_sem]) fun fn r hr => ?_)
      rw [hs3]
      have hx0 := hG0 r
      clear hG0
      refine callsIn_wide.2 ((pairs_iter (Mb + 1 + 1 + 1) (Mb + 1) (nodesT T) RA rc
        (fun rest W => ∃ done ov rows n f, AX w B g rr Mr Mb (Mb + 1) r A T c RA (nodesT T) rc done rest ov rows n f W)
        (fun _ => False) HRc.out HN5.out ?_ ?_ _ ?_).mono ?_)
      · rintro rest W ⟨done, ov, rows, n, f, hx⟩
        exact ⟨hx.s.row, hx.s.x⟩
      · rintro ⟨x, y⟩ rest W ⟨done, ov, rows, n, f, hx⟩
        have e1 := congrArg Loop.tmps hr
        have e2 := congrArg Loop.params hr
        have e3 := congrArg Loop.assign hr
        have e4 := congrArg Loop.body hr
        have e5 := congrArg Loop.state hr
        have e6 := congrArg Loop.pending hr
        simp only [loopRec] at e1 e2 e3 e4 e5 e6
        refine ⟨_, _, _, _, run_yield hx.s.loop.rec_ (by rw [e2]; rfl), ?_⟩
        rw [e1, e2, e3, e4]
        clear e1 e2 e3 e4 hr
        refine roundIn_of_wpIn trivial ?_
        simp only [List.zip_toArray, List.zip_cons_cons, List.zip_nil_right, List.foldl_toArray', List.foldl_cons, List.foldl_nil, List.setIfInBounds_toArray, List.set_cons_succ, List.set_cons_zero]
        have hbr := Lib.hid (hx.s.loop.begin_ (P := Tryz.prog) e5)
        have hx2 := hx.putLoop (busyRec r)
        generalize W.putObj (Mb + 1 + 2) (.loop (busyRec r)) = W2 at *
        obtain ⟨k1, k2, hxy, hk1, hk2⟩ := HSh.out (x, y) (by rw [hx.ps]; simp)
        injection hxy with hx1 hy1
        subst hx1 hy1
        have K2 := (callsIn_wide (n := 0)).2 (of2_ok hx2.rd HCT.out.ok k1 k2 hk1 hk2)
        have s5 := hx2.s.t5.cell 0
        simp only [List.getElem?_toArray, List.getElem?_cons_zero] at s5
        have HX2 := Lib.hid hx2
        clear hx hx0 hx2
        gi_wp2
        refine ⟨W2, hbr.out, ?_⟩
        gi_wp2
        refine ⟨trivial, rfl, CallsIn.mono (F := Fence.wide) K2 ?_⟩
        rintro e W4 ⟨v, rv, rfl, hgv, hgl, hg3, hgn, hrd4, hk4⟩
        have hy := HX2.out.of hgv hgl hg3 hgn hrd4 hk4
        have s3 : W4.cell? ⟨B + 1 + 1, 0, none⟩ = some (.map (some Mb)) := hy.s.t3.cell 0
        obtain ⟨kl, hkl⟩ := pair_key_in (x := (k1 : Int)) (y := (k2 : Int)) (by unfold In64; omega) (by unfold In64; omega)
        obtain ⟨W5, hrun, hm5, hg5⟩ := hy.by_.store pair_key Tryz.underlying114 (by have := hy.n; have := HPn.out; have h9 := congrArg List.length hy.ps; rw [List.length_append] at h9; unfold maxLen; omega) hkl v (g := putFn f (pairKey k1 k2) v) (putFn_at _ _ _) (fun z hz => putFn_far _ _ _ z hz)
        have k45 : Kept (fun b => b = Mb) W4 W5 := (Kept.refl _ W4).grown hg5 (fun k e => .inl (by injection e with e; exact e.symm))
        have hmb := hy.s.hMb
        obtain ⟨ov', W6, hrun6, ho6, hg6, hob⟩ := append_rows_run 46 (own_kept hy.own k45 (fun g hg => by have := (hy.own.lt g hg).1; omega)) (hy.gv.kept k45 (fun b _ hb e => by omega)) (by have := hy.rlen; have := hy.g3; have := HPn.out; have h9 := congrArg List.length hy.ps; rw [List.length_append] at h9; omega) (by have := hy.s.loop.lt; have := k45.size; omega) hy.gn
        have hfin := hy.put HNd.out hm5 hg5 ho6 hg6 hob
        have b5 : Blk W5 (B + 1) 46 #[ov] := hy.t2.kept k45 (by omega)
        have s2 := b5.cell 0
        have hb6 : Blk W6 (B + 1) 46 #[ov] := b5.grown hg6 (fun e => by have := (hy.own.lt _ e.symm).1; omega)
        have s6 := hb6.cell 0
        have f6 := hb6.frozen 0
        simp only [List.getElem?_toArray, List.getElem?_cons_zero] at s2 s6
        have HFin := Lib.hid hfin
        obtain ⟨OA, oc, hov⟩ := own_slice ho6
        obtain ⟨ln, hln⟩ : ∃ ln, (rows ++ rv).length = ln := ⟨_, rfl⟩
        rw [hln] at hov
        subst hov
        clear hfin hln hy hgv hgl hg3 hgn hrd4 hk4 K2 hkl hm5 hg5 k45 ho6 hg6 hob b5 hb6 s5
        simp only [pairKey] at hrun
        gi_wp2_with (gi_at_builtin; refine listIn_append rfl (.tmp 33) (.tmp 34) 46 rfl rfl rfl hrun6 ?_)
        exact ⟨_, _, HFin.out.s.loop.end_ e5 e6, .inl ⟨rfl, _, _, _, _, _, HFin.out.putLoop r⟩⟩
      · exact ⟨[], _, _, _, _, hx0⟩
      · have e5 := congrArg Loop.state hr
        have e6 := congrArg Loop.pending hr
        simp only [loopRec] at e5 e6
        clear hr hx0
        rintro e W' ⟨rfl, hcase⟩
        obtain ⟨done, ov, rows, n, f, hx⟩ := hcase.resolve_right (fun h => h)
        refine ⟨none, _, hx.s.loop.over_ e5 e6, ?_⟩
        have hx7 := hx.putLoop (overRec r)
        generalize W'.putObj (Mb + 1 + 2) (.loop (overRec r)) = W7 at *
        have hdone : done = pairsL (nodesT T) := by have := hx7.ps; rw [List.append_nil] at this; exact this.symm
        subst hdone
        have HX7 := Lib.hid hx7
        have s1 := hx7.s.t1.cell 0
        simp only [List.getElem?_toArray, List.getElem?_cons_zero] at s1
        have HRl : Hid (rows.length ≤ 1000000) := Lib.hid (by have := hx7.rlen; have := HPn.out; omega)
        clear hx hx7 HPn HNd HSh
        go_wp2
        go_loopg [39] T.length (fun gg v wr => ∃ i : Nat, i + gg = T.length ∧ v = .int .i64 i ∧ AX w B g rr Mr Mb (Mb + 1) (overRec r) A T c RA (nodesT T) rc (pairsL (nodesT T)) [] ov rows n f wr ∧ ∀ k : Nat, k < i → intsB T (ndAt T k) = true → ∃ a m q, f (pairKey (ndAt T k).a0 (ndAt T k).a1) = some (.slice (some a) m q))
        case atStart => exact ⟨0, by omega, rfl, HX7.out, fun k hk => absurd hk (Nat.not_lt_zero _)⟩
        case round =>
          obtain ⟨i, hig, rfl, hx8, hinv⟩ := hrel
          have HX8 := Lib.hid hx8
          have HI := Lib.hid hinv
          have s1 := hx8.s.t1.cell 0
          simp only [List.getElem?_toArray, List.getElem?_cons_zero] at s1
          clear hx8 hinv
          cases gk with
          | zero =>
            obtain rfl : i = T.length := by omega
            have d1 : decide ((T.length : Int) < T.length) = false := by simp
            have s2 := HX8.out.t2.cell 0
            have s3 : _ = some (Value.map (some Mb)) := HX8.out.s.t3.cell 0
            have s5 := HX8.out.s.t5.cell 0
            have s6 := HX8.out.rd.blk.cell 2
            have f2 := HX8.out.t2.frozen 0
            have f3 := HX8.out.s.t3.frozen 0
            simp only [List.getElem?_toArray, List.getElem?_cons_zero, List.getElem?_cons_succ] at s2 s3 s5 s6
            have f3' : wr.frozen? ⟨B + 1 + 1, 0, none⟩ = false := f3
            obtain ⟨OA, oc, hov⟩ := own_slice HX8.out.own
            subst hov
            have HEq : Hid (eqsB T = true) := Lib.hid (by
              unfold eqsB
              rw [List.all_eq_true]
              intro m hm
              rw [decide_eq_true_eq]
              rintro ⟨h6, h1⟩
              obtain ⟨k, hk, e⟩ := mem_ndAt hm
              obtain ⟨a, q1, q2, e2⟩ := HI.out k hk (by rw [e]; unfold intsB; simp [h6, h1])
              rw [e] at e2
              by_cases hin : (m.a0, m.a1) ∈ pairsL (nodesT T)
              · have := (mem_pairs (nodes_sorted T)).1 hin
                exact ⟨this.1, this.2.1⟩
              · rw [HX8.out.byf.1 _ _ hin] at e2
                cases e2)
            have HOk : Hid (((pairsL (nodesT T)).any fun p => (of2 T p.1 p.2).isNone) = !okB T) := Lib.hid (any_isNone _ _)
            have HLd : Hid (laidB T = okB T) := Lib.hid (by rw [HGl.out, HEq.out]; simp)
            obtain ⟨bd, hbd⟩ : ∃ bd, ((pairsL (nodesT T)).any fun p => (of2 T p.1 p.2).isNone) = bd := ⟨_, rfl⟩
            rw [hbd] at s6 HOk
            clear hbd
            have hXd : AX w B g rr Mr Mb (Mb + 1) (overRec r) A T c RA (nodesT T) rc (pairsL (nodesT T)) [] (.slice OA rows.length oc) rows n f wr.drew := HX8.out.below (below_drewN (Below.refl wr.heap.size wr) 1)
            have HXd := Lib.hid hXd
            have k2 := Kept.set1 wr.drew (B + 1) 0 (.slice OA rows.length oc)
            have k3 := Kept.set1 (wr.drew.setCell ⟨B + 1, 0, none⟩ (.slice OA rows.length oc)) (B + 2) 0 (.map (some Mb))
            have hg1 := hXd.s.hg
            have hr1 := hXd.s.hr
            have b2 := hXd.t2.set_ 0 (.slice OA rows.length oc)
            have b3 := hXd.s.t3.kept k2 (by omega)
            have b2' := b2.kept k3 (by omega)
            have b3' := b3.set_ 0 (.map (some Mb))
            simp only [List.setIfInBounds_toArray, List.set_cons_zero] at b2 b2' b3'
            have p2 : (wr.drew.setCell ⟨B + 1, 0, none⟩ (.slice OA rows.length oc)).cell? ⟨B + 1, 0, none⟩ = some (.slice OA rows.length oc) := b2.cell 0
            have p3 : (wr.drew.setCell ⟨B + 1, 0, none⟩ (.slice OA rows.length oc)).cell? ⟨B + 1 + 1, 0, none⟩ = some (.map (some Mb)) := b3.cell 0
            have p5 : (wr.drew.setCell ⟨B + 1, 0, none⟩ (.slice OA rows.length oc)).cell? ⟨g, 0, none⟩ = some (.pointer (some ⟨rr, 0, none⟩)) := (hXd.s.t5.kept k2 (by omega)).cell 0
            have p6 : (wr.drew.setCell ⟨B + 1, 0, none⟩ (.slice OA rows.length oc)).cell? ⟨rr, 2, none⟩ = some (.bool bd) := by
              rw [show (wr.drew.setCell ⟨B + 1, 0, none⟩ (.slice OA rows.length oc)).cell? ⟨rr, 2, none⟩ = wr.cell? ⟨rr, 2, none⟩ by unfold World.cell?; rw [Below.heap_setCell wr.drew ⟨B + 1, 0, none⟩ _ rr (by show rr ≠ B + 1; omega)]; rfl]
              exact s6
            have q2 : ((wr.drew.setCell ⟨B + 1, 0, none⟩ (.slice OA rows.length oc)).setCell ⟨B + 1 + 1, 0, none⟩ (.map (some Mb))).cell? ⟨B + 1, 0, none⟩ = some (.slice OA rows.length oc) := b2'.cell 0
            have q3 : ((wr.drew.setCell ⟨B + 1, 0, none⟩ (.slice OA rows.length oc)).setCell ⟨B + 1 + 1, 0, none⟩ (.map (some Mb))).cell? ⟨B + 1 + 1, 0, none⟩ = some (.map (some Mb)) := b3'.cell 0
            have q5 : ((wr.drew.setCell ⟨B + 1, 0, none⟩ (.slice OA rows.length oc)).setCell ⟨B + 1 + 1, 0, none⟩ (.map (some Mb))).cell? ⟨g, 0, none⟩ = some (.pointer (some ⟨rr, 0, none⟩)) := ((hXd.s.t5.kept k2 (by omega)).kept k3 (by omega)).cell 0
            have q6 : ((wr.drew.setCell ⟨B + 1, 0, none⟩ (.slice OA rows.length oc)).setCell ⟨B + 1 + 1, 0, none⟩ (.map (some Mb))).cell? ⟨rr, 2, none⟩ = some (.bool bd) := by
              rw [show ((wr.drew.setCell ⟨B + 1, 0, none⟩ (.slice OA rows.length oc)).setCell ⟨B + 1 + 1, 0, none⟩ (.map (some Mb))).cell? ⟨rr, 2, none⟩ = (wr.drew.setCell ⟨B + 1, 0, none⟩ (.slice OA rows.length oc)).cell? ⟨rr, 2, none⟩ by unfold World.cell?; rw [Below.heap_setCell _ ⟨B + 1 + 1, 0, none⟩ _ rr (by show rr ≠ B + 1 + 1; omega)]]
              exact p6
            have f5 : wr.frozen? ⟨B + 1, 0, none⟩ = false := f2
            have u2 : (wr.setCell ⟨B + 1, 0, none⟩ (.slice OA rows.length oc)).drew.cell? ⟨B + 1, 0, none⟩ = some (.slice OA rows.length oc) := p2
            have v2 : ((wr.setCell ⟨B + 1, 0, none⟩ (.slice OA rows.length oc)).setCell ⟨B + 1 + 1, 0, none⟩ (.map (some Mb))).drew.cell? ⟨B + 1, 0, none⟩ = some (.slice OA rows.length oc) := q2
            have u3 : (wr.setCell ⟨B + 1, 0, none⟩ (.slice OA rows.length oc)).drew.cell? ⟨B + 1 + 1, 0, none⟩ = some (.map (some Mb)) := p3
            have v3 : ((wr.setCell ⟨B + 1, 0, none⟩ (.slice OA rows.length oc)).setCell ⟨B + 1 + 1, 0, none⟩ (.map (some Mb))).drew.cell? ⟨B + 1 + 1, 0, none⟩ = some (.map (some Mb)) := q3
            have u5 : (wr.setCell ⟨B + 1, 0, none⟩ (.slice OA rows.length oc)).drew.cell? ⟨g, 0, none⟩ = some (.pointer (some ⟨rr, 0, none⟩)) := p5
            have v5 : ((wr.setCell ⟨B + 1, 0, none⟩ (.slice OA rows.length oc)).setCell ⟨B + 1 + 1, 0, none⟩ (.map (some Mb))).drew.cell? ⟨g, 0, none⟩ = some (.pointer (some ⟨rr, 0, none⟩)) := q5
            have u6 : (wr.setCell ⟨B + 1, 0, none⟩ (.slice OA rows.length oc)).drew.cell? ⟨rr, 2, none⟩ = some (.bool bd) := p6
            have v6 : ((wr.setCell ⟨B + 1, 0, none⟩ (.slice OA rows.length oc)).setCell ⟨B + 1 + 1, 0, none⟩ (.map (some Mb))).drew.cell? ⟨rr, 2, none⟩ = some (.bool bd) := q6
            clear hXd k2 k3 hg1 hr1 b2 b3 b2' b3' f3 p2 p3 p5 p6 q2 q3 q5 q6
            go_wp2_with fail
            go_region_held3 (fun w' => w'.cell? ⟨B + 1, 0, none⟩ = some (.slice OA rows.length oc) ∧ w'.cell? ⟨B + 1 + 1, 0, none⟩ = some (.map (some Mb)) ∧ w'.cell? ⟨g, 0, none⟩ = some (.pointer (some ⟨rr, 0, none⟩)) ∧ w'.cell? ⟨rr, 2, none⟩ = some (.bool bd)) (go_keep) (fail)
            go_wp2_with fail
            change bodyPostM _ _ _ _ _ _ _ ((wr.drew.setCell ⟨B + 1, 0, none⟩ (.slice OA rows.length oc)).setCell ⟨B + 2, 0, none⟩ (.map (some Mb)))
            obtain ⟨o1, o2, o3, o4, o5⟩ := HXd.out.fin (.slice OA rows.length oc) (.map (some Mb))
            refine ⟨by simp, .inl ⟨_, _, rfl, run_takeDeferred o1, ?_⟩⟩
            generalize hwf : (((wr.drew.setCell ⟨B + 1, 0, none⟩ (.slice OA rows.length oc)).setCell ⟨B + 2, 0, none⟩ (.map (some Mb))).putObj (Mb + 1 + 1) (.deferred none)) = wf at o2 o3 o4 o5 ⊢
            have o3' : wf.cell? ⟨B + 1 + 1, 0, none⟩ = some (.map (some Mb)) := o3
            have hLB : laidB T = !bd := by rw [HLd.out, HOk.out]; simp
            have hX := HXd.out
            have hq := hX.s.hMb
            refine ⟨.tuple #[.slice OA rows.length oc, .map (some Mb), .bool (!bd)], by simp [results, Tryz.results66, go_sem, o2, o3'], ?_⟩
            refine ⟨.slice OA rows.length oc, .map (some Mb), by rw [hLB], ⟨_, _, _, rfl⟩, .inr ⟨Mb, n, f, rfl, hX.by_.kept o5 (by omega)⟩, fun e => ?_, by rw [HBs.out]; exact o4⟩
            have hok : okB T = true := by rw [← HLd.out]; exact e
            rw [HBs.out]
            refine ⟨rows, Mb, n, f, GridV.of_own (base := Mb + 1 + 3) (own_kept hX.own o5 (fun g hg => by have := (hX.own.lt g hg).1; omega)) ((hX.rn.kept o5 (fun b _ hb e => by omega)).mono (fun b _ hb => by omega)) (fun b hb => by omega) HRl.out, ?_, rfl, hX.by_.kept o5 (by omega), (hX.byf.kept o5 (fun b _ hb e => by omega)).mono (fun b hb => by omega)⟩
            rw [hX.sum (fun p hp => by unfold okB at hok; rw [List.all_eq_true] at hok; exact hok p hp)]
            rfl
          | succ gk =>
            have hlt : i < T.length := by omega
            have d1 : decide ((i : Int) < T.length) = true := by simp; omega
            have t1 : (0 : Int) ≤ (i : Int) := by omega
            have t2 : (i : Int) < (T.length : Int) := by omega
            obtain ⟨b, off, hA, hbb, hcell⟩ := HX8.out.s.tab.at_.resolve_left (by omega)
            subst hA
            obtain ⟨y0, y1, y2, y3, y4, y5, y6, y7⟩ := (hcell i hlt).all
            have HST := Lib.hid (HCT.out.ok.st i T[i] (List.getElem?_eq_getElem hlt))
            have HFit := Lib.hid (HCT.out.fit T[i] (List.getElem_mem hlt))
            have HMem := Lib.hid (List.getElem_mem hlt)
            have HND : Hid (ndAt T i = T[i]) := Lib.hid (ndAt_nat hlt)
            have HNext : Hid ((intsB T (ndAt T i) = true → ∃ a m q, f (pairKey (ndAt T i).a0 (ndAt T i).a1) = some (.slice (some a) m q)) → ∀ k : Nat, k < i + 1 → intsB T (ndAt T k) = true → ∃ a m q, f (pairKey (ndAt T k).a0 (ndAt T k).a1) = some (.slice (some a) m q)) := Lib.hid (fun e k hk => by
              by_cases hki : k = i
              · rw [hki]; exact e
              · exact HI.out k (by omega))
            clear hcell hbb
            generalize T[i] = n2 at *
            rw [HND.out] at HNext
            have hbN : Below wr.heap.size wr (wr.alloc (.cells (nodeCells n2).toArray 51)) := (Below.refl _ wr).alloc (Nat.le_refl _) _
            have HX9 := Lib.hid (HX8.out.below hbN)
            have HBN := Lib.hid (Blk.new wr 51 (nodeCells n2).toArray)
            have KI := Lib.hid (sints_ok c n2 (fun ho => by have := (HST.out.two (.inl ho)).1; omega) HX9.out.s.tab)
            have q1 := HX9.out.s.t1.cell 0
            have n0 := HBN.out.cell 0
            have n1 := HBN.out.cell 1
            have n2' := HBN.out.cell 2
            have n3 := HBN.out.cell 3
            have n4 := HBN.out.cell 4
            have n5 := HBN.out.cell 5
            have n6 := HBN.out.cell 6
            have n7 := HBN.out.cell 7
            simp only [nodeVal, nodeCells, List.getElem?_toArray, List.getElem?_cons_zero, List.getElem?_cons_succ] at q1 n0 n1 n2' n3 n4 n5 n6 n7 KI HX9 HBN
            obtain ⟨bi, hbi⟩ : ∃ bi, intsB T n2 = bi := ⟨_, rfl⟩
            have HBI := Lib.hid hbi
            rw [hbi] at KI
            clear hbN hbi
            go_wp2_with fail
            refine KI.out.mono ?_
            rintro e w5 ⟨rfl, hb⟩
            have HX10 := Lib.hid (HX9.out.below hb)
            have HBN5 := Lib.hid (HBN.out.below hb HBN.out.lt)
            clear hb q1 n0 n1 n2' n3 n4 n5 n6 n7 KI
            cases bi with
            | false =>
              have HN2 := Lib.hid (HNext.out (fun e => by rw [HBI.out] at e; cases e))
              go_wp2
              go_roundg gk
              case measure => omega
              case rel => exact ⟨i + 1, by omega, by go_num, HX10.out, HN2.out⟩
            | true =>
              have hop : n2.op = 6 := by have := HBI.out; unfold intsB at this; simp at this; exact this.1
              obtain ⟨⟨h0, h1⟩, h2, h3⟩ := HST.out.two (.inl hop)
              have s3 : w5.cell? ⟨B + 1 + 1, 0, none⟩ = some (.map (some Mb)) := HX10.out.s.t3.cell 0
              have n2' := HBN5.out.cell 2
              have n3 := HBN5.out.cell 3
              simp only [List.getElem?_toArray, List.getElem?_cons_zero, List.getElem?_cons_succ] at n2' n3
              obtain ⟨kl, hkl⟩ := pair_key_in (x := n2.a0) (y := n2.a1) (by unfold In64; omega) (by unfold In64; omega)
              have hlk := HX10.out.by_.look pair_key Tryz.underlying114 (zero_rows w5) hkl false
              have HFits := Lib.hid (show (ndAt T n2.a0).sort = 1 ∧ n2.a0 < n2.a1 by
                have hs := HBI.out
                unfold intsB at hs
                simp at hs
                have hf := HFit.out
                unfold fitB at hf
                rw [hop] at hf
                simp [hs.2] at hf
                exact ⟨hs.2, hf.1⟩)
              have HOp := Lib.hid hop
              clear hkl hop h0 h1 h2 h3
              simp only [pairKey] at hlk
              by_cases hin : (n2.a0, n2.a1) ∈ pairsL (nodesT T)
              · obtain ⟨v, rv, hv, hgv, _, hvl⟩ := HX10.out.byf.2 _ hin
                obtain ⟨VA, vc, rfl, hvx⟩ := hgv.form
                clear hvx
                simp only [pairKey] at hv
                rw [hv] at hlk
                dsimp only at hlk
                have heq := fun W => Lib.run_eql_slice_nil (P := Tryz.prog) W 46 27 VA rv.length vc 0 0 Tryz.underlying46
                cases VA with
                | none =>
                  have HBad : Hid (laidB T = false) := Lib.hid (by
                    rw [HGl.out]
                    have : okB T = false := by
                      cases ho : okB T with
                      | false => rfl
                      | true =>
                        unfold okB at ho
                        rw [List.all_eq_true] at ho
                        obtain ⟨l, hl⟩ := Option.isSome_iff_exists.1 (ho _ hin)
                        obtain ⟨_, a, m, q, e⟩ := hvl l hl
                        cases e
                    rw [this]
                    simp)
                  simp only [Option.isNone_none] at heq
                  clear hv hgv hvl
                  have s2 := HX10.out.t2.cell 0
                  have f2 := HX10.out.t2.frozen 0
                  have f3 : w5.frozen? ⟨B + 1 + 1, 0, none⟩ = false := HX10.out.s.t3.frozen 0
                  simp only [List.getElem?_toArray, List.getElem?_cons_zero] at s2
                  go_wp2
                  change bodyPostM _ _ _ _ _ _ _ ((w5.setCell ⟨B + 1, 0, none⟩ (.slice none 0 0)).setCell ⟨B + 2, 0, none⟩ (.map none))
                  obtain ⟨o1, o2, o3, o4, _⟩ := HX10.out.fin (.slice none 0 0) (.map none)
                  refine ⟨by simp, .inl ⟨_, _, rfl, run_takeDeferred o1, ?_⟩⟩
                  have o3' : (((w5.setCell ⟨B + 1, 0, none⟩ (.slice none 0 0)).setCell ⟨B + 2, 0, none⟩ (.map none)).putObj (Mb + 1 + 1) (.deferred none)).cell? ⟨B + 1 + 1, 0, none⟩ = some (.map none) := o3
                  refine ⟨.tuple #[.slice none 0 0, .map none, .bool false], by simp [results, Tryz.results66, go_sem, o2, o3'], ?_⟩
                  exact ⟨.slice none 0 0, .map none, by rw [HBad.out], ⟨none, 0, 0, rfl⟩, .inl rfl, fun e => (by rw [HBad.out] at e; cases e), by rw [HBs.out]; exact o4⟩
                | some va =>
                  have HN2 := Lib.hid (HNext.out (fun _ => ⟨va, _, _, by simp only [pairKey]; exact hv⟩))
                  simp only [Option.isNone_some] at heq
                  clear hv hgv hvl
                  go_wp2
                  go_roundg gk
                  case measure => omega
                  case rel => exact ⟨i + 1, by omega, by go_num, HX10.out, HN2.out⟩
              · have hv := HX10.out.byf.1 _ _ hin
                have HBad : Hid (laidB T = false) := Lib.hid (by
                  rw [HGl.out]
                  have : eqsB T = false := by
                    cases ho : eqsB T with
                    | false => rfl
                    | true =>
                      unfold eqsB at ho
                      rw [List.all_eq_true] at ho
                      have h1 := ho n2 HMem.out
                      simp only [decide_eq_true_eq] at h1
                      obtain ⟨m1, m2⟩ := h1 ⟨HOp.out, HFits.out.1⟩
                      exact absurd ((mem_pairs (nodes_sorted T)).2 ⟨m1, m2, HFits.out.2⟩) hin
                  rw [this]
                  simp)
                simp only [pairKey] at hv
                rw [hv] at hlk
                dsimp only at hlk
                obtain ⟨z0, hz0⟩ : ∃ z0 : Nat, 0 = z0 := ⟨0, rfl⟩
                rw [hz0] at hlk
                have heq := fun W => Lib.run_eql_slice_nil (P := Tryz.prog) W 46 27 none z0 z0 0 0 Tryz.underlying46
                clear hz0
                simp only [Option.isNone_none] at heq
                clear hv
                have s2 := HX10.out.t2.cell 0
                have f2 := HX10.out.t2.frozen 0
                have f3 : w5.frozen? ⟨B + 1 + 1, 0, none⟩ = false := HX10.out.s.t3.frozen 0
                simp only [List.getElem?_toArray, List.getElem?_cons_zero] at s2
                go_wp2
                change bodyPostM _ _ _ _ _ _ _ ((w5.setCell ⟨B + 1, 0, none⟩ (.slice none 0 0)).setCell ⟨B + 2, 0, none⟩ (.map none))
                obtain ⟨o1, o2, o3, o4, _⟩ := HX10.out.fin (.slice none 0 0) (.map none)
                refine ⟨by simp, .inl ⟨_, _, rfl, run_takeDeferred o1, ?_⟩⟩
                have o3' : (((w5.setCell ⟨B + 1, 0, none⟩ (.slice none 0 0)).setCell ⟨B + 2, 0, none⟩ (.map none)).putObj (Mb + 1 + 1) (.deferred none)).cell? ⟨B + 1 + 1, 0, none⟩ = some (.map none) := o3
                refine ⟨.tuple #[.slice none 0 0, .map none, .bool false], by simp [results, Tryz.results66, go_sem, o2, o3'], ?_⟩
                exact ⟨.slice none 0 0, .map none, by rw [HBad.out], ⟨none, 0, 0, rfl⟩, .inl rfl, fun e => (by rw [HBad.out] at e; cases e), by rw [HBs.out]; exact o4⟩
end Go.Proofs.YtlipnnibagidiaaGreat

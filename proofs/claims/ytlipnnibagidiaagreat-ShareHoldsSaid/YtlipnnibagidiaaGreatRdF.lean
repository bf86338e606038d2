/- gantrylaw26.wakes. -/
import Derived.Test.YtlipnnibagidiaaGreatRdC
import Derived.Lib.SliceRun
import Derived.Laws.OwnMore
namespace Go.Proofs.YtlipnnibagidiaaGreat
open Go.RowKit Go.Lib
open Go.Maps (Keyed)
attribute [local go_sem] Oper.semAt_some
theorem pairs_nodup : ∀ {l : List Int}, l.Pairwise (· < ·) → (pairsL l).Nodup
  | [], _ => by simp [pairsL]
  | x :: r, h => by
    obtain ⟨h1, h2⟩ := List.pairwise_cons.1 h
    rw [pairsL, List.nodup_append]
    refine ⟨?_, pairs_nodup h2, fun a ha b hb e => ?_⟩
    · have hr : r.Nodup := h2.imp fun h => by omega
      exact List.Pairwise.map _ (fun a b hab e => hab (by injection e)) hr
    · obtain ⟨y, hy, rfl⟩ := List.mem_map.1 ha
      subst e
      have := ((mem_pairs h2).1 hb).1
      have := h1 _ this
      simp at this
theorem any_isNone {α β : Type} (l : List α) (f : α → Option β) : (l.any fun p => (f p).isNone) = !(l.all fun p => (f p).isSome) := by
  induction l with
  | nil => rfl
  | cons a r ih =>
    rw [List.any_cons, List.all_cons, ih]
    cases f a <;> simp
def AllOut (T : List Nd) (w : World) (e : Ending) (w' : World) : Prop :=
  ∃ v m, e = .returned (.tuple #[v, m, .bool (laidB T)]) ∧ (∃ A n c, v = .slice A n c) ∧ (m = .map none ∨ ∃ Mb n f, m = .map (some Mb) ∧ MapAt Tryz.prog 122 w' Mb n f) ∧
    (laidB T = true → ∃ rows Mb n f, GridV (fun b => w.heap.size ≤ b) w' v rows ∧ rows.map (fun r => r.2.2) = allT T ∧ m = .map (some Mb) ∧ MapAt Tryz.prog 122 w' Mb n f ∧ ByF T (pairsL (nodesT T)) (fun b => w.heap.size ≤ b) w' f) ∧ Below w.heap.size w w'
structure AX (w : World) (B g rr Mr Mb L : Nat) (r : Loop) (A : Option Addr) (T : List Nd) (c : Nat) (RA : Option Addr) (R : List Int) (rc : Nat) (done rest : List (Int × Int)) (ov : Value) (rows : List (Option Addr × Nat × List Int)) (n : Nat) (f : Value → Option Value) (W : World) : Prop where
  s : AS w B g rr Mr Mb L r A T c RA R rc W
  rd : Reader W rr A T c Mr (done.any fun p => (of2 T p.1 p.2).isNone)
  t2 : Blk W (B + 1) 46 #[ov]
  own : W.ownsRow (L + 3) 27 1 ov rows.length (rows.map encR)
  rn : RowsN (fun b => L + 3 ≤ b ∧ some b ≠ ov.ownBlock) W rows
  by_ : MapAt Tryz.prog 122 W Mb n f
  byf : ByF T done (fun b => L + 3 ≤ b ∧ some b ≠ ov.ownBlock) W f
  n : n ≤ done.length
  rlen : rows.length ≤ 3 * done.length
  sum : (∀ p ∈ done, (of2 T p.1 p.2).isSome = true) → rows.map (fun r => r.2.2) = done.flatMap fun p => (of2 T p.1 p.2).getD []
  ps : pairsL R = done ++ rest
section
variable {w W W' : World} {B g rr Mr Mb L : Nat} {r : Loop} {A : Option Addr} {T : List Nd} {c : Nat} {RA : Option Addr} {R : List Int} {rc : Nat} {done rest : List (Int × Int)} {ov : Value} {rows : List (Option Addr × Nat × List Int)} {n : Nat} {f : Value → Option Value}
theorem AX.putLoop (h : AX w B g rr Mr Mb L r A T c RA R rc done rest ov rows n f W) (r' : Loop) : AX w B g rr Mr Mb L r' A T c RA R rc done rest ov rows n f (W.putObj (L + 2) (.loop r')) := by
  have hs := h.s.putLoop r'
  have hk := Kept.putObj W (L + 2) (.loop r')
  have h1 := h.s.hg
  have h2 := h.s.hr
  have h3 := h.s.hMr
  have h4 := h.s.hMb
  have hN : ∀ b, b < W.heap.size → (L + 3 ≤ b ∧ some b ≠ ov.ownBlock) → ¬ b = L + 2 := fun b _ hb e => by omega
  exact ⟨hs, h.rd.far hk (by omega) (by omega) hs.tab, h.t2.kept hk (by omega), own_kept h.own hk (fun g hg => by have := (h.own.lt g hg).1; omega), h.rn.kept hk hN, h.by_.kept hk (by omega), h.byf.kept hk hN, h.n, h.rlen, h.sum, h.ps⟩
theorem AX.below (h : AX w B g rr Mr Mb L r A T c RA R rc done rest ov rows n f W) (hb : Below W.heap.size W W') : AX w B g rr Mr Mb L r A T c RA R rc done rest ov rows n f W' := by
  have hk := Kept.of_below (S := fun _ => False) hb
  have hs := h.s.move hk (fun _ _ e => e.elim) (h.s.tab.below hb)
  exact ⟨hs, h.rd.keep hb, h.t2.below hb h.t2.lt, own_kept h.own hk (fun _ _ e => e), h.rn.kept hk (fun _ _ _ e => e), h.by_.below hb h.by_.lt, h.byf.kept hk (fun _ _ _ e => e), h.n, h.rlen, h.sum, h.ps⟩
theorem AX.fin (h : AX w B g rr Mr Mb L r A T c RA R rc done rest ov rows n f W) (v m : Value) :
    ((W.setCell ⟨B + 1, 0, none⟩ v).setCell ⟨B + 2, 0, none⟩ m).heap[L + 1]? = some (.deferred (some [])) ∧
    (((W.setCell ⟨B + 1, 0, none⟩ v).setCell ⟨B + 2, 0, none⟩ m).putObj (L + 1) (.deferred none)).cell? ⟨B + 1, 0, none⟩ = some v ∧
    (((W.setCell ⟨B + 1, 0, none⟩ v).setCell ⟨B + 2, 0, none⟩ m).putObj (L + 1) (.deferred none)).cell? ⟨B + 2, 0, none⟩ = some m ∧
    Below B w (((W.setCell ⟨B + 1, 0, none⟩ v).setCell ⟨B + 2, 0, none⟩ m).putObj (L + 1) (.deferred none)) ∧
    Kept (fun b => b = B + 1 ∨ b = B + 2 ∨ b = L + 1) W (((W.setCell ⟨B + 1, 0, none⟩ v).setCell ⟨B + 2, 0, none⟩ m).putObj (L + 1) (.deferred none)) := by
  have h1 := h.s.hg
  have hl := h.s.loop.lt
  have k1 := Kept.set1 W (B + 1) 0 v
  have k2 := Kept.set1 (W.setCell ⟨B + 1, 0, none⟩ v) (B + 2) 0 m
  have k3 := Kept.putObj ((W.setCell ⟨B + 1, 0, none⟩ v).setCell ⟨B + 2, 0, none⟩ m) (L + 1) (.deferred none)
  have hk : Kept (fun b => b = B + 1 ∨ b = B + 2 ∨ b = L + 1) W (((W.setCell ⟨B + 1, 0, none⟩ v).setCell ⟨B + 2, 0, none⟩ m).putObj (L + 1) (.deferred none)) := ((k1.mono fun _ _ e => .inl e).trans (k2.mono fun _ _ e => .inr (.inl e))).trans (k3.mono fun _ _ e => .inr (.inr e))
  have b2 := ((h.t2.set_ 0 v).kept k2 (by omega)).kept k3 (by omega)
  have b3 := ((h.s.t3.kept k1 (by omega)).set_ 0 m).kept k3 (by omega)
  have c2 := b2.cell 0
  have c3 := b3.cell 0
  simp only [zzg, zzi, zza, zzb] at c2 c3
  exact ⟨((h.s.loop.kept k1 (by omega) (by omega)).kept k2 (by omega) (by omega)).def_, c2, c3, h.s.kept.trans (hk.below (by omega) (fun k e => by omega)), hk⟩
theorem AX.new {wc : World} (hB : w.heap.size = B) (hbc : Below B w wc) (ht : Tab w A T) (t1 : Blk wc B 33 #[.slice A T.length c]) (t2 : Blk wc (B + 1) 46 #[.slice none 0 0]) (t3 : Blk wc (B + 2) 114 #[.map none])
    (hg : Blk wc g 159 #[.pointer (some ⟨rr, 0, none⟩)]) (hrd : Reader wc rr A T c Mr false) (hrow : Row wc RA R)
    (hRA : ∀ a, RA = some a → 0 < R.length → B + 3 ≤ a.block ∧ a.block < wc.heap.size ∧ a.block ≠ g ∧ a.block ≠ rr ∧ a.block ≠ Mr) (hg1 : B + 3 ≤ g) (hr1 : B + 3 ≤ rr) (hM1 : B + 3 ≤ Mr) (ne1 : g ≠ rr) (ne2 : g ≠ Mr) (ne3 : rr ≠ Mr) (r : Loop) :
    AX w B g rr Mr wc.heap.size (wc.heap.size + 1) r A T c RA R rc [] (pairsL R) (.slice none 0 0) [] 0 (fun _ => none)
      (((((wc.setCell ⟨B + 2, 0, none⟩ (.map (some wc.heap.size))).alloc (.map #[] 0)).alloc (.cells #[.slice RA R.length rc] 27)).alloc (.deferred (some []))).alloc (.loop r)) := by
  have hk0 := Kept.set1 wc (B + 2) 0 (.map (some wc.heap.size))
  have hsz0 : (wc.setCell ⟨B + 2, 0, none⟩ (.map (some wc.heap.size))).heap.size = wc.heap.size := by simp [World.setCell]
  have hb1 : Below wc.heap.size (wc.setCell ⟨B + 2, 0, none⟩ (.map (some wc.heap.size))) (((((wc.setCell ⟨B + 2, 0, none⟩ (.map (some wc.heap.size))).alloc (.map #[] 0)).alloc (.cells #[.slice RA R.length rc] 27)).alloc (.deferred (some []))).alloc (.loop r)) :=
    ((((Below.refl _ _).alloc (by rw [hsz0]; exact Nat.le_refl _) _).alloc (by simp) _).alloc (by simp; omega) _).alloc (by simp; omega) _
  have hk : Kept (fun b => b = B + 2) wc _ := hk0.trans (Kept.of_below (S := fun b => b = B + 2) (by rw [hsz0]; exact hb1))
  have hbw : Below B w (((((wc.setCell ⟨B + 2, 0, none⟩ (.map (some wc.heap.size))).alloc (.map #[] 0)).alloc (.cells #[.slice RA R.length rc] 27)).alloc (.deferred (some []))).alloc (.loop r)) := hbc.trans (hk.below (by have := t3.lt; omega) (fun k e => by omega))
  have hlt : Mr < wc.heap.size := by obtain ⟨_, _, m1, _⟩ := hrd.map; exact m1.lt
  have h3 := t3.lt
  have hrl := hrd.blk.lt
  have hgl := hg.lt
  obtain ⟨m, f, m1, m2⟩ := hrd.map
  have htab : Tab _ A T := ht.below (by rw [hB]; exact hbw)
  have hl := LoopAt.new (((wc.setCell ⟨B + 2, 0, none⟩ (.map (some wc.heap.size))).alloc (.map #[] 0)).alloc (.cells #[.slice RA R.length rc] 27)) r
  rw [show (((wc.setCell ⟨B + 2, 0, none⟩ (.map (some wc.heap.size))).alloc (.map #[] 0)).alloc (.cells #[.slice RA R.length rc] 27)).heap.size = wc.heap.size + 1 + 1 by simp [World.setCell]] at hl
  have ht3 := t3.set_ 0 (.map (some wc.heap.size))
  simp only [zza, zzb] at ht3
  have hmade := (((MapAt.made Tryz.prog 122 (wc.setCell ⟨B + 2, 0, none⟩ (.map (some wc.heap.size)))).alloc (.cells #[.slice RA R.length rc] 27)).alloc (.deferred (some []))).alloc (.loop r)
  rw [hsz0] at hmade
  refine ⟨⟨hl, t1.kept hk (by omega), (((ht3.alloc _).alloc _).alloc _).alloc _, hg.kept hk (by omega), ((Blk.new_at (by simp [World.setCell]) _ _).alloc _).alloc _, hrow.off hk (fun a e hp => by have := hRA a e hp; omega), htab, ht, ⟨m, f, m1.kept hk (by omega), m2⟩, hbw, hB, ⟨hg1, by omega⟩, ⟨hr1, by omega⟩, ⟨hM1, by omega⟩, ⟨by omega, by omega⟩, fun a e hp => ?_, ⟨ne1, ne2, by omega, ne3, by omega, by omega⟩⟩,
    hrd.far hk (by omega) (by omega) htab, t2.kept hk (by omega), World.ownsRow_nil _ _ _ _, fun x hx => (by cases hx), hmade, ByF.nil _ _ _, Nat.le_refl _, Nat.le_refl _, fun _ => rfl, rfl⟩
  have := hRA a e hp
  omega
structure AY (w : World) (B g rr Mr Mb L : Nat) (r : Loop) (A : Option Addr) (T : List Nd) (c : Nat) (RA : Option Addr) (R : List Int) (rc : Nat) (done rest : List (Int × Int)) (x y : Int) (ov v : Value) (rows rv : List (Option Addr × Nat × List Int)) (n : Nat) (f : Value → Option Value) (W : World) : Prop where
  s : AS w B g rr Mr Mb L r A T c RA R rc W
  rd : Reader W rr A T c Mr ((done ++ [(x, y)]).any fun p => (of2 T p.1 p.2).isNone)
  t2 : Blk W (B + 1) 46 #[ov]
  own : W.ownsRow (L + 3) 27 1 ov rows.length (rows.map encR)
  rn : RowsN (fun b => L + 3 ≤ b ∧ some b ≠ ov.ownBlock) W rows
  by_ : MapAt Tryz.prog 122 W Mb n f
  byf : ByF T done (fun b => L + 3 ≤ b ∧ some b ≠ ov.ownBlock) W f
  n : n ≤ done.length
  rlen : rows.length ≤ 3 * done.length
  sum : (∀ p ∈ done, (of2 T p.1 p.2).isSome = true) → rows.map (fun r => r.2.2) = done.flatMap fun p => (of2 T p.1 p.2).getD []
  ps : pairsL R = done ++ (x, y) :: rest
  gv : GridV (fun b => L + 3 ≤ b ∧ some b ≠ ov.ownBlock) W v rv
  gl : ∀ l, of2 T x y = some l → rv.map (fun r => r.2.2) = l ∧ ∃ a n c, v = .slice (some a) n c
  g3 : rv.length ≤ 3
  gn : v = .slice none 0 0 ∨ 0 < rv.length
theorem AX.of {x y : Int} (h : AX w B g rr Mr Mb L r A T c RA R rc done ((x, y) :: rest) ov rows n f W) {v : Value} {rv : List (Option Addr × Nat × List Int)} (hg : GridV (fun b => W.heap.size ≤ b) W' v rv) (hl : ∀ l, of2 T x y = some l → rv.map (fun r => r.2.2) = l ∧ ∃ a n c, v = .slice (some a) n c) (h3 : rv.length ≤ 3) (hn : v = .slice none 0 0 ∨ 0 < rv.length)
    (hr : Reader W' rr A T c Mr ((done.any fun p => (of2 T p.1 p.2).isNone) || (of2 T x y).isNone)) (hk : Kept (fun b => b = rr) W W') : AY w B g rr Mr Mb L r A T c RA R rc done rest x y ov v rows rv n f W' := by
  have h2 := h.s.hr
  have h4 := h.s.hMb
  have h5 := h.s.ne
  have hN : ∀ b, b < W.heap.size → (L + 3 ≤ b ∧ some b ≠ ov.ownBlock) → ¬ b = rr := fun b _ hb e => by omega
  refine ⟨h.s.move hk (fun b _ e => .inr (.inl e)) hr.tab, by simpa using hr, h.t2.kept hk (by omega), own_kept h.own hk (fun g hg => by have := (h.own.lt g hg).1; omega), h.rn.kept hk hN, h.by_.kept hk (by omega), h.byf.kept hk hN, h.n, h.rlen, h.sum, h.ps, ?_, hl, h3, hn⟩
  refine hg.mono fun b _ hb => ⟨?_, fun e => ?_⟩
  · have := h.s.loop.lt
    omega
  · have := (h.own.lt b e.symm).2
    omega
theorem AY.put {x y : Int} {v : Value} {rv : List (Option Addr × Nat × List Int)} (h : AY w B g rr Mr Mb L r A T c RA R rc done rest x y ov v rows rv n f W) (hnd : (pairsL R).Nodup)
    {W2 W3 : World} {ov' : Value} (hm : MapAt Tryz.prog 122 W2 Mb (n + 1) (putFn f (pairKey x y) v)) (hgm : W.grownBy W2 (some Mb))
    (ho : W3.ownsRow (L + 3) 27 1 ov' (rows ++ rv).length ((rows ++ rv).map encR)) (hgo : W2.grownBy W3 ov.ownBlock) (hob : ov'.ownBlock = ov.ownBlock ∨ ov'.ownBlock = some W2.heap.size) :
    AX w B g rr Mr Mb L r A T c RA R rc (done ++ [(x, y)]) rest ov' (rows ++ rv) (n + 1) (putFn f (pairKey x y) v) (W3.setCell ⟨B + 1, 0, none⟩ ov') := by
  have h1 := h.s.hg
  have h2 := h.s.hr
  have h3 := h.s.hMr
  have h4 := h.s.hMb
  have h5 := h.s.ne
  have hll := h.s.loop.lt
  have k1 : Kept (fun b => b = Mb) W W2 := (Kept.refl _ W).grown hgm (fun k e => .inl (by injection e with e; exact e.symm))
  have k2 : Kept (fun b => some b = ov.ownBlock) W2 W3 := (Kept.refl _ W2).grown hgo (fun k e => .inl e.symm)
  have k3 := Kept.set1 W3 (B + 1) 0 ov'
  have ho1 : ∀ b, some b = ov.ownBlock → L + 3 ≤ b := fun b e => (h.own.lt b e.symm).1
  have ho3 : ∀ b, ov'.ownBlock = some b → L + 3 ≤ b := fun b e => (ho.lt b e).1
  have hnew : (x, y) ∉ done := fun hm => by
    rw [h.ps, List.nodup_append] at hnd
    exact hnd.2.2 (x, y) hm (x, y) (by simp) rfl
  have t1 : Tab W2 A T := h.s.tab.far (fun i => by
    obtain ⟨es, cl, e⟩ := h.by_.obj
    unfold World.cell?
    rw [e]) k1
  have hs1 := h.s.move k1 (fun b _ e => .inr (.inr (.inl e))) t1
  have t2' : Tab W3 A T := h.s.t0.below (by
    rw [h.s.hB]
    exact (h.s.kept.trans (k1.below (by omega) (fun k e => by omega))).trans (k2.below (by have := k1.size; omega) (fun k e => by have := ho1 k e; omega)))
  have hs2 := hs1.move k2 (fun b _ e => .inr (.inr (.inr (ho1 b e)))) t2'
  have b2 : Blk W3 (B + 1) 46 #[ov] := (h.t2.kept k1 (by omega)).kept k2 (fun e => by have := ho1 _ e; omega)
  have t3' : Tab (W3.setCell ⟨B + 1, 0, none⟩ ov') A T := hs2.tab.far (fun i => b2.small i) k3
  have hN1 : ∀ b, b < W.heap.size → (L + 3 ≤ b ∧ some b ≠ ov.ownBlock) → ¬ b = Mb := fun b _ hb e => by omega
  have hN2 : ∀ b, b < W2.heap.size → (L + 3 ≤ b ∧ some b ≠ ov.ownBlock) → ¬ some b = ov.ownBlock := fun b _ hb => hb.2
  have hN2' : ∀ b, b < W3.heap.size → (L + 3 ≤ b ∧ some b ≠ ov'.ownBlock) → ¬ b = B + 1 := fun b _ hb e => by omega
  have hmo : ∀ b, b < W2.heap.size → (L + 3 ≤ b ∧ some b ≠ ov.ownBlock) → (L + 3 ≤ b ∧ some b ≠ ov.ownBlock ∧ some b ≠ ov'.ownBlock) := fun b hb hc => ⟨hc.1, hc.2, fun e => by
    rcases hob with hob | hob
    · exact hc.2 (e.trans hob)
    · rw [hob] at e
      injection e with e
      omega⟩
  have hN3 : ∀ b, b < W2.heap.size → (L + 3 ≤ b ∧ some b ≠ ov.ownBlock ∧ some b ≠ ov'.ownBlock) → ¬ some b = ov.ownBlock := fun b _ hb => hb.2.1
  have hm3 : ∀ b, b < W3.heap.size → (L + 3 ≤ b ∧ some b ≠ ov.ownBlock ∧ some b ≠ ov'.ownBlock) → (L + 3 ≤ b ∧ some b ≠ ov'.ownBlock) := fun b _ hb => ⟨hb.1, hb.2.2⟩
  have hbt2 := b2.set_ 0 ov'
  simp only [zza, zzb] at hbt2
  refine ⟨hs2.move k3 (fun b _ e => .inl e) t3', ((h.rd.far k1 (by omega) (by omega) t1).far k2 (fun e => by have := ho1 _ e; omega) (fun e => by have := ho1 _ e; omega) t2').far k3 (by omega) (by omega) t3', hbt2,
    own_kept ho k3 (fun g hg => by have := ho3 g hg; omega), ?_, (hm.kept k2 (fun e => by have := ho1 _ e; omega)).kept k3 (by omega), ?_, by have := h.n; simp; omega, by have := h.rlen; have := h.g3; simp; omega, fun hall => ?_, by rw [h.ps]; simp⟩
  · exact (((((h.rn.kept k1 hN1).append (h.gv.rows.kept k1 hN1)).mono hmo).kept k2 hN3).mono hm3).kept k3 hN2'
  · exact (((((h.byf.kept k1 hN1).put hnew (h.gv.kept k1 hN1) h.g3 h.gl).mono hmo).kept k2 hN3).mono hm3).kept k3 hN2'
  · have h1 := h.sum fun p hp => hall p (List.mem_append.2 (.inl hp))
    have h2 := hall (x, y) (by simp)
    obtain ⟨l, hl⟩ := Option.isSome_iff_exists.1 h2
    rw [List.map_append, h1, (h.gl l hl).1, List.flatMap_append]
    simp only [List.flatMap_cons, List.flatMap_nil, List.append_nil]
    rw [show of2 T x y = some l from hl]
    rfl
end
set_option maxRecDepth 100000 in
set_option maxHeartbeats 8000000 in
theorem all_ok {T : List Nd} {w : World} {A : Option Addr} (c : Nat) (hc : T.length ≤ c) (h : Tab w A T) (hl : (nodesT T).length ≤ 500) :
    Calls Tryz.prog 66 #[.agg #[.slice A T.length c]] w (AllOut T w) := by
  have hlen := h.len
  have hmm := @run_makeMap Tryz.prog
  obtain ⟨w0, hw0⟩ : ∃ w0, ((w.alloc (.cells #[.slice A T.length c] 33)).alloc (.cells #[.slice none 0 0] 46)).alloc (.cells #[.map none] 114) = w0 := ⟨_, rfl⟩
  have HS0 : Hid (w0.heap.size = w.heap.size + 3) := zzh (by rw [← hw0]; simp)
  have HB0 : Hid (Below w.heap.size w w0) := zzh (by rw [← hw0]; exact (((Below.refl _ w).alloc (Nat.le_refl _) _).alloc (by simp) _).alloc (by simp; omega) _)
  have HT0 : Hid (Blk w0 w.heap.size 33 #[.slice A T.length c]) := zzh (by rw [← hw0]; exact ((Blk.new w _ _).alloc _).alloc _)
  have HO0 : Hid (Blk w0 (w.heap.size + 1) 46 #[.slice none 0 0]) := zzh (by rw [← hw0]; exact (Blk.new_at (by simp) _ _).alloc _)
  have HM0 : Hid (Blk w0 (w.heap.size + 1 + 1) 114 #[.map none]) := zzh (by rw [← hw0]; exact Blk.new_at (by simp) _ _)
  have a0 := HT0.out.cell 0
  simp only [zzg, zzi] at a0
  have H := zzh h
  have HC := zzh hc
  have HNl := zzh hl
  have HGl : Hid (laidB T = (coreB T && eqsB T && okB T)) := zzh rfl
  clear h hc hl
  refine callsIn_wide.1 (callsIn_of_wp_marks (n := 2) Tryz.func66 rfl trivial (wpIn_wide.2 ?_) rfl)
  simp only [Tryz.ntmps66, List.size_toArray, List.length_cons, List.length_nil, Nat.reduceAdd, Nat.reduceSub, Array.replicate_succ, Array.replicate_zero, List.push_toArray, List.append_toArray, List.nil_append, List.cons_append]
  go_wp2_with fail
  refine (score_ok c HC.out (H.out.below HB0.out)).mono ?_
  rintro e w1 ⟨rfl, hb1⟩
  have HB1 := zzh (HB0.out.trans (hb1.mono HB0.out.size))
  have HT1 := zzh (HT0.out.below hb1 HT0.out.lt)
  have HO1 := zzh (HO0.out.below hb1 HO0.out.lt)
  have HM1 := zzh (HM0.out.below hb1 HM0.out.lt)
  have HSZ1 : Hid (w.heap.size + 3 ≤ w1.heap.size) := zzh (by rw [← HS0.out]; exact hb1.size)
  have a1 := HT1.out.cell 0
  have f2 := HO1.out.frozen 0
  have f3 := HM1.out.frozen 0
  have b2 := HO1.out.cell 0
  have b3 := HM1.out.cell 0
  simp only [zzg, zzi] at a1 b2 b3
  clear hb1 a0 hw0
  generalize hcb : coreB T = cb at *
  cases cb with
  | false =>
    have HLf : Hid (laidB T = false) := zzh (by rw [HGl.out]; rfl)
    clear hcb
    go_wp2
    have x2 := ((HO1.out.set_ 0 (.slice none 0 0)).far (p := ⟨w.heap.size + 1 + 1, 0, none⟩) (by simp) (.map none)).cell 0
    have x3 := ((HM1.out.far (p := ⟨w.heap.size + 1, 0, none⟩) (by simp) (.slice none 0 0)).set_ 0 (.map none)).cell 0
    simp only [zzg, zzi, zza, zzb] at x2 x3
    refine ⟨.tuple #[.slice none 0 0, .map none, .bool false], by simp [results, Tryz.results66, go_sem, x2, x3], ?_⟩
    exact ⟨.slice none 0 0, .map none, by rw [HLf.out], ⟨none, 0, 0, rfl⟩, .inl rfl, fun e => (by rw [HLf.out] at e; cases e), (HB1.out.setCell (by simp) _).setCell (by simp; omega) _⟩
  | true =>
    have HCT := zzh (coreB_iff.1 hcb)
    clear hcb
    have KR := zzh (fun (W : World) (hW : Below w1.heap.size w1 W) => read_ok c HC.out ((H.out.below HB1.out).below hW) HCT.out.ok)
    have KN := zzh (fun (W : World) (hW : Below w1.heap.size w1 W) => nodes_ok c ((H.out.below HB1.out).below hW) HCT.out.ok)
    have HN5 : Hid ((nodesT T).length ≤ 100000) := zzh (by have := HNl.out; omega)
    go_upto_region 3 with fail
    go_cut [5, 6] from 15 to 18 (fun v5 v6 wc => ∃ g rr Mr RA rc, v5 = .pointer (some ⟨g, 0, none⟩) ∧ v6 = .slice RA (nodesT T).length rc ∧ Blk wc g 159 #[.pointer (some ⟨rr, 0, none⟩)] ∧ Reader wc rr A T c Mr false ∧ Row wc RA (nodesT T) ∧ (nodesT T).length ≤ rc ∧ (∀ a, RA = some a → 0 < (nodesT T).length → w1.heap.size ≤ a.block ∧ a.block < wc.heap.size ∧ a.block ≠ g ∧ a.block ≠ rr ∧ a.block ≠ Mr) ∧ w1.heap.size ≤ g ∧ w1.heap.size ≤ rr ∧ w1.heap.size ≤ Mr ∧ g ≠ rr ∧ g ≠ Mr ∧ rr ≠ Mr ∧ Below w1.heap.size w1 wc)
    case first =>
      have X1 := zzh (show Below w1.heap.size w1 w1.drew from below_drewN (Below.refl _ w1) 1)
      have X2 := zzh (show Below w1.heap.size w1 (w1.alloc (.cells #[.pointer none] 159)).drew from below_drewN ((Below.refl _ w1).alloc (Nat.le_refl _) _) 1)
      have X3 := zzh (show Blk (w1.alloc (.cells #[.pointer none] 159)).drew w1.heap.size 159 #[.pointer none] from Blk.new w1 _ _)
      have HLt := zzh HT1.out.lt
      go_region_held3 (fun w' => w'.cell? ⟨w.heap.size, 0, none⟩ = some (.slice A T.length c)) (go_keep) ((first
        | (go_at_call 106; refine (KR.out _ X1.out).mono ?_; rintro e w2 ⟨rr, Mr, rfl, hr, h1, h2, hb⟩; have HB2 := zzh (X1.out.trans (hb.mono X1.out.size)); have HR2 := zzh hr; have HI2 : Hid (w1.heap.size ≤ rr ∧ w1.heap.size ≤ Mr) := zzh (And.intro (Nat.le_trans X1.out.size h1) (Nat.le_trans X1.out.size h2)); have HP2 := zzh (And.intro hr.blk.lt (show Mr < w2.heap.size by obtain ⟨_, _, m1, _⟩ := hr.map; exact m1.lt)); have a2 := (HB2.out.cell (p := ⟨w.heap.size, 0, none⟩) HLt.out).trans a1; clear hr h1 h2 hb)
        | (go_at_call 106; refine (KR.out _ X2.out).mono ?_; rintro e w2 ⟨rr, Mr, rfl, hr, h1, h2, hb⟩; have HB2f := zzh (X2.out.trans (hb.mono X2.out.size)); have HR2 := zzh hr; have HG := zzh (X3.out.below hb X3.out.lt); have HI2 : Hid (w1.heap.size + 1 ≤ rr ∧ w1.heap.size + 1 ≤ Mr) := zzh (And.intro (by simpa using h1) (by simpa using h2)); have HP2 := zzh (And.intro hr.blk.lt (show Mr < w2.heap.size by obtain ⟨_, _, m1, _⟩ := hr.map; exact m1.lt)); have a2 := (HB2f.out.cell (p := ⟨w.heap.size, 0, none⟩) HLt.out).trans a1; clear hr h1 h2 hb)
        | (go_at_call 54; refine (KN.out _ HB2.out).mono ?_; rintro e w3 ⟨v, rfl, hv, hb⟩; obtain ⟨RA, rc, rfl⟩ := own_slice hv; have HV3 := zzh hv; have HB23 := zzh hb; have HB3 := zzh (HB2.out.trans (hb.mono HB2.out.size)); have a3 := (HB3.out.cell (p := ⟨w.heap.size, 0, none⟩) HLt.out).trans a1; clear hv hb)
        | (go_at_call 54; refine (KN.out _ (HB2.out.alloc HB2.out.size (.cells #[.pointer none] 159))).mono ?_; rintro e w3 ⟨v, rfl, hv, hb⟩; obtain ⟨RA, rc, rfl⟩ := own_slice hv; have HV3 := zzh hv; have HB23 := zzh hb; have HBa := zzh (HB2.out.alloc HB2.out.size (.cells #[.pointer none] 159)); have HB3 := zzh (HBa.out.trans (hb.mono HBa.out.size)); have HGa := zzh ((Blk.new w2 159 #[.pointer none]).below hb (by simp)); have HB2x := zzh HB2.out.size; have a3 := (HB3.out.cell (p := ⟨w.heap.size, 0, none⟩) HLt.out).trans a1; have HB4 := zzh (HB3.out.setCell (p := ⟨w2.heap.size, 0, none⟩) (by have := HB2x.out; first | (simp; omega) | simp) (.pointer (some ⟨rr, 0, none⟩))); have a4 := (HB4.out.cell (p := ⟨w.heap.size, 0, none⟩) HLt.out).trans a1; have g0 := HGa.out.cell 0; have gf := HGa.out.frozen 0; simp only [zzg, zzi] at g0; clear hv hb)
        | (go_at_call 54; refine (KN.out _ HB2f.out).mono ?_; rintro e w3 ⟨v, rfl, hv, hb⟩; obtain ⟨RA, rc, rfl⟩ := own_slice hv; have HV3 := zzh hv; have HB23 := zzh hb; have HB3 := zzh (HB2f.out.trans (hb.mono HB2f.out.size)); have HG3 := zzh (HG.out.below hb HG.out.lt); have HB2x := zzh HB2f.out.size; have a3 := (HB3.out.cell (p := ⟨w.heap.size, 0, none⟩) HLt.out).trans a1; have HB4 := zzh (HB3.out.setCell (p := ⟨w1.heap.size, 0, none⟩) (by have := HB2x.out; first | (simp; omega) | simp) (.pointer (some ⟨rr, 0, none⟩))); have a4 := (HB4.out.cell (p := ⟨w.heap.size, 0, none⟩) HLt.out).trans a1; have g0 := HG3.out.cell 0; have gf := HG3.out.frozen 0; simp only [zzg, zzi] at g0; clear hv hb)))
      all_goals go_wp2
      all_goals go_meet
      · have hrw := OwnL.row HV3.out HN5.out
        have hb := (Below.refl w3.heap.size w3).alloc (Nat.le_refl _) (.cells #[.pointer (some ⟨rr, 0, none⟩)] 159)
        have h1 := HB3.out.size
        have h2 := HB2.out.size
        have h3 := HB23.out.size
        have h4 := HI2.out
        have h5 := HP2.out
        have h6 := HR2.out.ne
        refine ⟨w3.heap.size, rr, Mr, RA, rc, rfl, rfl, Blk.new _ _ _, (HR2.out.keep HB23.out).keep hb, hrw.1.below hb, hrw.2.2.1, fun a e hp => ?_, h1, h4.1, h4.2, by omega, by omega, fun e => h6 e.symm, HB3.out.trans (hb.mono h1)⟩
        have := hrw.2.1 a e hp
        rw [World.size_alloc]
        omega
      · have hrw := OwnL.row HV3.out HN5.out
        have hb : Below w2.heap.size w2 w3 := ((Below.refl w2.heap.size w2).alloc (Nat.le_refl _) (.cells #[.pointer none] 159)).trans (HB23.out.mono (by simp))
        have hb4 := hb.setCell (p := ⟨w2.heap.size, 0, none⟩) (Nat.le_refl _) (.pointer (some ⟨rr, 0, none⟩))
        have hk := Kept.set1 w3 w2.heap.size 0 (.pointer (some ⟨rr, 0, none⟩))
        have h1 := HB3.out.size
        have h2 := HB2.out.size
        have h4 := HI2.out
        have h5 := HP2.out
        have h6 := HR2.out.ne
        have hg5 := HGa.out.set_ 0 (.pointer (some ⟨rr, 0, none⟩))
        simp only [zza, zzb] at hg5
        refine ⟨w2.heap.size, rr, Mr, RA, rc, rfl, rfl, hg5, HR2.out.keep hb4, hrw.1.off hk (fun a e hp => ?_), hrw.2.2.1, fun a e hp => ?_, h2, h4.1, h4.2, by omega, by omega, fun e => h6 e.symm, HB4.out⟩
        · have := hrw.2.1 a e hp
          rw [World.size_alloc] at this
          omega
        · have := hrw.2.1 a e hp
          rw [World.size_alloc] at this
          have h7 := hk.size
          omega
      · have hrw := OwnL.row HV3.out HN5.out
        have hk := Kept.set1 w3 w1.heap.size 0 (.pointer (some ⟨rr, 0, none⟩))
        have h1 := HB3.out.size
        have h2 := HB2f.out.size
        have h3 := HG.out.lt
        have h4 := HI2.out
        have h5 := HP2.out
        have h6 := HR2.out.ne
        have hg5 := HG3.out.set_ 0 (.pointer (some ⟨rr, 0, none⟩))
        simp only [zza, zzb] at hg5
        refine ⟨w1.heap.size, rr, Mr, RA, rc, rfl, rfl, hg5, (HR2.out.keep HB23.out).far hk (by omega) (by omega) ((H.out.below HB1.out).below HB4.out), hrw.1.off hk (fun a e hp => ?_), hrw.2.2.1, fun a e hp => ?_, Nat.le_refl _, by omega, by omega, by omega, by omega, fun e => h6 e.symm, HB4.out⟩
        · have := hrw.2.1 a e hp
          omega
        · have := hrw.2.1 a e hp
          have h7 := hk.size
          omega
    case rest =>
      obtain ⟨g, rr, Mr, RA, rc, rfl, rfl, hg, hrd, hrow, hrc, hRA, hg1, hr1, hM1, ne1, ne2, ne3, hbc⟩ := hcut
      have HG := zzh hg
      have HRD := zzh hrd
      have HROW := zzh hrow
      have HRc := zzh hrc
      have HRA := zzh hRA
      have HNE := zzh (And.intro hg1 (And.intro hr1 (And.intro hM1 (And.intro ne1 (And.intro ne2 ne3)))))
      have HBC := zzh (HB1.out.trans (hbc.mono HB1.out.size))
      have HTC := zzh (HT1.out.below hbc HT1.out.lt)
      have HOC := zzh (HO1.out.below hbc HO1.out.lt)
      have HMC := zzh (HM1.out.below hbc HM1.out.lt)
      have HSC : Hid (w.heap.size + 3 ≤ wc.heap.size) := zzh (Nat.le_trans HSZ1.out hbc.size)
      have m3 := HMC.out.cell 0
      have mf := HMC.out.frozen 0
      have hltM := HMC.out.lt
      simp only [zzg, zzi] at m3
      clear hg hrd hrow hrc hRA hg1 hr1 hM1 ne1 ne2 ne3 hbc a1 f2 f3 b2 b3 KR KN
      go_wp2_with (go_at_call 56; refine (pairs_ok _ _ _).mono ?_; rintro e w3 ⟨rfl, rfl⟩)
      have hG0 : ∀ r, AX w w.heap.size g rr Mr wc.heap.size (wc.heap.size + 1) r A T c RA (nodesT T) rc [] (pairsL (nodesT T)) (.slice none 0 0) [] 0 (fun _ => none)
          (((((wc.setCell ⟨w.heap.size + 2, 0, none⟩ (.map (some wc.heap.size))).alloc (.map #[] 0)).alloc (.cells #[.slice RA (nodesT T).length rc] 27)).alloc (.deferred (some []))).alloc (.loop r)) := by
        have hn := HNE.out
        have hz := HSZ1.out
        exact AX.new rfl HBC.out H.out HTC.out HOC.out HMC.out HG.out HRD.out HROW.out (fun a e hp => by have := HRA.out a e hp; omega) (by omega) (by omega) (by omega) hn.2.2.2.1 hn.2.2.2.2.1 hn.2.2.2.2.2
      have HNd : Hid ((pairsL (nodesT T)).Nodup) := zzh (pairs_nodup (nodes_sorted T))
      have HSh : Hid (∀ p ∈ pairsL (nodesT T), ∃ k1 k2 : Nat, p = ((k1 : Int), (k2 : Int)) ∧ k1 < T.length ∧ k2 < T.length) := zzh (fun p hp => by
        obtain ⟨h1, h2, _⟩ := nodes_pairs hp
        obtain ⟨x, y⟩ := p
        exact ⟨x.toNat, y.toNat, by rw [Int.toNat_of_nonneg h1.lo, Int.toNat_of_nonneg h2.lo], by have := h1.hi; have := h1.lo; simp only at *; omega, by have := h2.hi; have := h2.lo; simp only at *; omega⟩)
      have HPn : Hid ((pairsL (nodesT T)).length ≤ 125000) := zzh (by
        have h1 := pairsL_len (nodesT T)
        have h2 : (nodesT T).length * ((nodesT T).length - 1) ≤ 500 * 499 := Nat.mul_le_mul HNl.out (by have := HNl.out; omega)
        omega)
      obtain ⟨B, hB⟩ : ∃ B, w.heap.size = B := ⟨_, rfl⟩
      have HBs := zzh hB
      obtain ⟨W3, hW3⟩ : ∃ W3, ((wc.setCell ⟨w.heap.size + 1 + 1, 0, none⟩ (.map (some wc.heap.size))).alloc (.map #[] 0)).alloc (.cells #[.slice RA (nodesT T).length rc] 27) = W3 := ⟨_, rfl⟩
      obtain ⟨Mb, hMb⟩ : ∃ Mb, wc.heap.size = Mb := ⟨_, rfl⟩
      have hs3 : W3.heap.size = Mb + 1 + 1 := by rw [← hW3, ← hMb]; simp [World.setCell]
      change ∀ r, AX w w.heap.size g rr Mr wc.heap.size (wc.heap.size + 1) r A T c RA (nodesT T) rc [] (pairsL (nodesT T)) (.slice none 0 0) [] 0 (fun _ => none) (((((wc.setCell ⟨w.heap.size + 1 + 1, 0, none⟩ (.map (some wc.heap.size))).alloc (.map #[] 0)).alloc (.cells #[.slice RA (nodesT T).length rc] 27)).alloc (.deferred (some []))).alloc (.loop r)) at hG0
      simp only [hW3] at hG0 ⊢
      rw [hB, hMb] at hG0
      rw [hB, hMb]
      clear hW3 m3 mf hltM HG HRD HROW HOC HMC HTC HRA HNE HSC HBC HT1 HO1 HM1 HSZ1
      refine wpIn_wide.1 (rangeFunc_wide (n := 2) (gf := 93) rfl (fun _ _ => by simp [invoke, go_sem]) fun fn r hr => ?_)
      rw [hs3]
      have hx0 := hG0 r
      clear hG0
      refine callsIn_wide.2 ((pairs_iter (Mb + 1 + 1 + 1) (Mb + 1) (nodesT T) RA rc
        (fun rest W => ∃ done ov rows n f, AX w B g rr Mr Mb (Mb + 1) r A T c RA (nodesT T) rc done rest ov rows n f W)
        (fun _ => False) HRc.out HN5.out ?_ ?_ _ ?_).mono ?_)
      · rintro rest W ⟨done, ov, rows, n, f, hx⟩
        exact ⟨hx.s.row, hx.s.x⟩
      · rintro ⟨x, y⟩ rest W ⟨done, ov, rows, n, f, hx⟩
        have e1 := congrArg Loop.tmps hr
        have e2 := congrArg Loop.params hr
        have e3 := congrArg Loop.assign hr
        have e4 := congrArg Loop.body hr
        have e5 := congrArg Loop.state hr
        have e6 := congrArg Loop.pending hr
        simp only [loopRec] at e1 e2 e3 e4 e5 e6
        refine ⟨_, _, _, _, run_yield hx.s.loop.rec_ (by rw [e2]; rfl), ?_⟩
        rw [e1, e2, e3, e4]
        clear e1 e2 e3 e4 hr
        refine roundIn_of_wpIn trivial ?_
        simp only [List.zip_toArray, List.zip_cons_cons, List.zip_nil_right, List.foldl_toArray', List.foldl_cons, List.foldl_nil, zza, zzc, zzb]
        have hbr := zzh (hx.s.loop.begin_ (P := Tryz.prog) e5)
        have hx2 := hx.putLoop (busyRec r)
        generalize W.putObj (Mb + 1 + 2) (.loop (busyRec r)) = W2 at *
        obtain ⟨k1, k2, hxy, hk1, hk2⟩ := HSh.out (x, y) (by rw [hx.ps]; simp)
        injection hxy with hx1 hy1
        subst hx1 hy1
        have K2 := (callsIn_wide (n := 0)).2 (of2_ok hx2.rd HCT.out.ok k1 k2 hk1 hk2)
        have s5 := hx2.s.t5.cell 0
        simp only [zzg, zzi] at s5
        have HX2 := zzh hx2
        clear hx hx0 hx2
        gi_wp2
        refine ⟨W2, hbr.out, ?_⟩
        gi_wp2
        refine ⟨trivial, rfl, CallsIn.mono (F := Fence.wide) K2 ?_⟩
        rintro e W4 ⟨v, rv, rfl, hgv, hgl, hg3, hgn, hrd4, hk4⟩
        have hy := HX2.out.of hgv hgl hg3 hgn hrd4 hk4
        have s3 : W4.cell? ⟨B + 1 + 1, 0, none⟩ = some (.map (some Mb)) := hy.s.t3.cell 0
        obtain ⟨kl, hkl⟩ := pair_key_in (x := (k1 : Int)) (y := (k2 : Int)) (by unfold In64; omega) (by unfold In64; omega)
        obtain ⟨W5, hrun, hm5, hg5⟩ := hy.by_.store pair_key Tryz.underlying114 (by have := hy.n; have := HPn.out; have h9 := congrArg List.length hy.ps; rw [List.length_append] at h9; unfold maxLen; omega) hkl v (g := putFn f (pairKey k1 k2) v) (putFn_at _ _ _) (fun z hz => putFn_far _ _ _ z hz)
        have k45 : Kept (fun b => b = Mb) W4 W5 := (Kept.refl _ W4).grown hg5 (fun k e => .inl (by injection e with e; exact e.symm))
        have hmb := hy.s.hMb
        obtain ⟨ov', W6, hrun6, ho6, hg6, hob⟩ := append_rows_run 46 (own_kept hy.own k45 (fun g hg => by have := (hy.own.lt g hg).1; omega)) (hy.gv.kept k45 (fun b _ hb e => by omega)) (by have := hy.rlen; have := hy.g3; have := HPn.out; have h9 := congrArg List.length hy.ps; rw [List.length_append] at h9; omega) (by have := hy.s.loop.lt; have := k45.size; omega) hy.gn
        have hfin := hy.put HNd.out hm5 hg5 ho6 hg6 hob
        have b5 : Blk W5 (B + 1) 46 #[ov] := hy.t2.kept k45 (by omega)
        have s2 := b5.cell 0
        have hb6 : Blk W6 (B + 1) 46 #[ov] := b5.grown hg6 (fun e => by have := (hy.own.lt _ e.symm).1; omega)
        have s6 := hb6.cell 0
        have f6 := hb6.frozen 0
        simp only [zzg, zzi] at s2 s6
        have HFin := zzh hfin
        obtain ⟨OA, oc, hov⟩ := own_slice ho6
        obtain ⟨ln, hln⟩ : ∃ ln, (rows ++ rv).length = ln := ⟨_, rfl⟩
        rw [hln] at hov
        subst hov
        clear hfin hln hy hgv hgl hg3 hgn hrd4 hk4 K2 hkl hm5 hg5 k45 ho6 hg6 hob b5 hb6 s5
        simp only [pairKey] at hrun
        gi_wp2_with (gi_at_builtin; refine listIn_append rfl (.tmp 33) (.tmp 34) 46 rfl rfl rfl hrun6 ?_)
        exact ⟨_, _, HFin.out.s.loop.end_ e5 e6, .inl ⟨rfl, _, _, _, _, _, HFin.out.putLoop r⟩⟩
      · exact ⟨[], _, _, _, _, hx0⟩
      · have e5 := congrArg Loop.state hr
        have e6 := congrArg Loop.pending hr
        simp only [loopRec] at e5 e6
        clear hr hx0
        rintro e W' ⟨rfl, hcase⟩
        obtain ⟨done, ov, rows, n, f, hx⟩ := hcase.resolve_right (fun h => h)
        refine ⟨none, _, hx.s.loop.over_ e5 e6, ?_⟩
        have hx7 := hx.putLoop (overRec r)
        generalize W'.putObj (Mb + 1 + 2) (.loop (overRec r)) = W7 at *
        have hdone : done = pairsL (nodesT T) := by have := hx7.ps; rw [List.append_nil] at this; exact this.symm
        subst hdone
        have HX7 := zzh hx7
        have s1 := hx7.s.t1.cell 0
        simp only [zzg, zzi] at s1
        have HRl : Hid (rows.length ≤ 1000000) := zzh (by have := hx7.rlen; have := HPn.out; omega)
        clear hx hx7 HPn HNd HSh
        go_wp2
        go_loopg [39] T.length (fun gg v wr => ∃ i : Nat, i + gg = T.length ∧ v = .int .i64 i ∧ AX w B g rr Mr Mb (Mb + 1) (overRec r) A T c RA (nodesT T) rc (pairsL (nodesT T)) [] ov rows n f wr ∧ ∀ k : Nat, k < i → intsB T (ndAt T k) = true → ∃ a m q, f (pairKey (ndAt T k).a0 (ndAt T k).a1) = some (.slice (some a) m q))
        case atStart => exact ⟨0, by omega, rfl, HX7.out, fun k hk => absurd hk (Nat.not_lt_zero _)⟩
        case round =>
          obtain ⟨i, hig, rfl, hx8, hinv⟩ := hrel
          have HX8 := zzh hx8
          have HI := zzh hinv
          have s1 := hx8.s.t1.cell 0
          simp only [zzg, zzi] at s1
          clear hx8 hinv
          cases gk with
          | zero =>
            obtain rfl : i = T.length := by omega
            have d1 : decide ((T.length : Int) < T.length) = false := by simp
            have s2 := HX8.out.t2.cell 0
            have s3 : _ = some (Value.map (some Mb)) := HX8.out.s.t3.cell 0
            have s5 := HX8.out.s.t5.cell 0
            have s6 := HX8.out.rd.blk.cell 2
            have f2 := HX8.out.t2.frozen 0
            have f3 := HX8.out.s.t3.frozen 0
            simp only [zzg, zzi, zzj] at s2 s3 s5 s6
            have f3' : wr.frozen? ⟨B + 1 + 1, 0, none⟩ = false := f3
            obtain ⟨OA, oc, hov⟩ := own_slice HX8.out.own
            subst hov
            have HEq : Hid (eqsB T = true) := zzh (by
              unfold eqsB
              rw [List.all_eq_true]
              intro m hm
              rw [decide_eq_true_eq]
              rintro ⟨h6, h1⟩
              obtain ⟨k, hk, e⟩ := mem_ndAt hm
              obtain ⟨a, q1, q2, e2⟩ := HI.out k hk (by rw [e]; unfold intsB; simp [h6, h1])
              rw [e] at e2
              by_cases hin : (m.a0, m.a1) ∈ pairsL (nodesT T)
              · have := (mem_pairs (nodes_sorted T)).1 hin
                exact ⟨this.1, this.2.1⟩
              · rw [HX8.out.byf.1 _ _ hin] at e2
                cases e2)
            have HOk : Hid (((pairsL (nodesT T)).any fun p => (of2 T p.1 p.2).isNone) = !okB T) := zzh (any_isNone _ _)
            have HLd : Hid (laidB T = okB T) := zzh (by rw [HGl.out, HEq.out]; simp)
            obtain ⟨bd, hbd⟩ : ∃ bd, ((pairsL (nodesT T)).any fun p => (of2 T p.1 p.2).isNone) = bd := ⟨_, rfl⟩
            rw [hbd] at s6 HOk
            clear hbd
            have hXd : AX w B g rr Mr Mb (Mb + 1) (overRec r) A T c RA (nodesT T) rc (pairsL (nodesT T)) [] (.slice OA rows.length oc) rows n f wr.drew := HX8.out.below (below_drewN (Below.refl wr.heap.size wr) 1)
            have HXd := zzh hXd
            have k2 := Kept.set1 wr.drew (B + 1) 0 (.slice OA rows.length oc)
            have k3 := Kept.set1 (wr.drew.setCell ⟨B + 1, 0, none⟩ (.slice OA rows.length oc)) (B + 2) 0 (.map (some Mb))
            have hg1 := hXd.s.hg
            have hr1 := hXd.s.hr
            have b2 := hXd.t2.set_ 0 (.slice OA rows.length oc)
            have b3 := hXd.s.t3.kept k2 (by omega)
            have b2' := b2.kept k3 (by omega)
            have b3' := b3.set_ 0 (.map (some Mb))
            simp only [zza, zzb] at b2 b2' b3'
            have p2 : (wr.drew.setCell ⟨B + 1, 0, none⟩ (.slice OA rows.length oc)).cell? ⟨B + 1, 0, none⟩ = some (.slice OA rows.length oc) := b2.cell 0
            have p3 : (wr.drew.setCell ⟨B + 1, 0, none⟩ (.slice OA rows.length oc)).cell? ⟨B + 1 + 1, 0, none⟩ = some (.map (some Mb)) := b3.cell 0
            have p5 : (wr.drew.setCell ⟨B + 1, 0, none⟩ (.slice OA rows.length oc)).cell? ⟨g, 0, none⟩ = some (.pointer (some ⟨rr, 0, none⟩)) := (hXd.s.t5.kept k2 (by omega)).cell 0
            have p6 : (wr.drew.setCell ⟨B + 1, 0, none⟩ (.slice OA rows.length oc)).cell? ⟨rr, 2, none⟩ = some (.bool bd) := by
              rw [show (wr.drew.setCell ⟨B + 1, 0, none⟩ (.slice OA rows.length oc)).cell? ⟨rr, 2, none⟩ = wr.cell? ⟨rr, 2, none⟩ by unfold World.cell?; rw [Below.heap_setCell wr.drew ⟨B + 1, 0, none⟩ _ rr (by show rr ≠ B + 1; omega)]; rfl]
              exact s6
            have q2 : ((wr.drew.setCell ⟨B + 1, 0, none⟩ (.slice OA rows.length oc)).setCell ⟨B + 1 + 1, 0, none⟩ (.map (some Mb))).cell? ⟨B + 1, 0, none⟩ = some (.slice OA rows.length oc) := b2'.cell 0
            have q3 : ((wr.drew.setCell ⟨B + 1, 0, none⟩ (.slice OA rows.length oc)).setCell ⟨B + 1 + 1, 0, none⟩ (.map (some Mb))).cell? ⟨B + 1 + 1, 0, none⟩ = some (.map (some Mb)) := b3'.cell 0
            have q5 : ((wr.drew.setCell ⟨B + 1, 0, none⟩ (.slice OA rows.length oc)).setCell ⟨B + 1 + 1, 0, none⟩ (.map (some Mb))).cell? ⟨g, 0, none⟩ = some (.pointer (some ⟨rr, 0, none⟩)) := ((hXd.s.t5.kept k2 (by omega)).kept k3 (by omega)).cell 0
            have q6 : ((wr.drew.setCell ⟨B + 1, 0, none⟩ (.slice OA rows.length oc)).setCell ⟨B + 1 + 1, 0, none⟩ (.map (some Mb))).cell? ⟨rr, 2, none⟩ = some (.bool bd) := by
              rw [show ((wr.drew.setCell ⟨B + 1, 0, none⟩ (.slice OA rows.length oc)).setCell ⟨B + 1 + 1, 0, none⟩ (.map (some Mb))).cell? ⟨rr, 2, none⟩ = (wr.drew.setCell ⟨B + 1, 0, none⟩ (.slice OA rows.length oc)).cell? ⟨rr, 2, none⟩ by unfold World.cell?; rw [Below.heap_setCell _ ⟨B + 1 + 1, 0, none⟩ _ rr (by show rr ≠ B + 1 + 1; omega)]]
              exact p6
            have f5 : wr.frozen? ⟨B + 1, 0, none⟩ = false := f2
            have u2 : (wr.setCell ⟨B + 1, 0, none⟩ (.slice OA rows.length oc)).drew.cell? ⟨B + 1, 0, none⟩ = some (.slice OA rows.length oc) := p2
            have v2 : ((wr.setCell ⟨B + 1, 0, none⟩ (.slice OA rows.length oc)).setCell ⟨B + 1 + 1, 0, none⟩ (.map (some Mb))).drew.cell? ⟨B + 1, 0, none⟩ = some (.slice OA rows.length oc) := q2
            have u3 : (wr.setCell ⟨B + 1, 0, none⟩ (.slice OA rows.length oc)).drew.cell? ⟨B + 1 + 1, 0, none⟩ = some (.map (some Mb)) := p3
            have v3 : ((wr.setCell ⟨B + 1, 0, none⟩ (.slice OA rows.length oc)).setCell ⟨B + 1 + 1, 0, none⟩ (.map (some Mb))).drew.cell? ⟨B + 1 + 1, 0, none⟩ = some (.map (some Mb)) := q3
            have u5 : (wr.setCell ⟨B + 1, 0, none⟩ (.slice OA rows.length oc)).drew.cell? ⟨g, 0, none⟩ = some (.pointer (some ⟨rr, 0, none⟩)) := p5
            have v5 : ((wr.setCell ⟨B + 1, 0, none⟩ (.slice OA rows.length oc)).setCell ⟨B + 1 + 1, 0, none⟩ (.map (some Mb))).drew.cell? ⟨g, 0, none⟩ = some (.pointer (some ⟨rr, 0, none⟩)) := q5
            have u6 : (wr.setCell ⟨B + 1, 0, none⟩ (.slice OA rows.length oc)).drew.cell? ⟨rr, 2, none⟩ = some (.bool bd) := p6
            have v6 : ((wr.setCell ⟨B + 1, 0, none⟩ (.slice OA rows.length oc)).setCell ⟨B + 1 + 1, 0, none⟩ (.map (some Mb))).drew.cell? ⟨rr, 2, none⟩ = some (.bool bd) := q6
            clear hXd k2 k3 hg1 hr1 b2 b3 b2' b3' f3 p2 p3 p5 p6 q2 q3 q5 q6
            go_wp2_with fail
            go_region_held3 (fun w' => w'.cell? ⟨B + 1, 0, none⟩ = some (.slice OA rows.length oc) ∧ w'.cell? ⟨B + 1 + 1, 0, none⟩ = some (.map (some Mb)) ∧ w'.cell? ⟨g, 0, none⟩ = some (.pointer (some ⟨rr, 0, none⟩)) ∧ w'.cell? ⟨rr, 2, none⟩ = some (.bool bd)) (go_keep) (fail)
            go_wp2_with fail
            change bodyPostM _ _ _ _ _ _ _ ((wr.drew.setCell ⟨B + 1, 0, none⟩ (.slice OA rows.length oc)).setCell ⟨B + 2, 0, none⟩ (.map (some Mb)))
            obtain ⟨o1, o2, o3, o4, o5⟩ := HXd.out.fin (.slice OA rows.length oc) (.map (some Mb))
            refine ⟨by simp, .inl ⟨_, _, rfl, run_takeDeferred o1, ?_⟩⟩
            generalize hwf : (((wr.drew.setCell ⟨B + 1, 0, none⟩ (.slice OA rows.length oc)).setCell ⟨B + 2, 0, none⟩ (.map (some Mb))).putObj (Mb + 1 + 1) (.deferred none)) = wf at o2 o3 o4 o5 ⊢
            have o3' : wf.cell? ⟨B + 1 + 1, 0, none⟩ = some (.map (some Mb)) := o3
            have hLB : laidB T = !bd := by rw [HLd.out, HOk.out]; simp
            have hX := HXd.out
            have hq := hX.s.hMb
            refine ⟨.tuple #[.slice OA rows.length oc, .map (some Mb), .bool (!bd)], by simp [results, Tryz.results66, go_sem, o2, o3'], ?_⟩
            refine ⟨.slice OA rows.length oc, .map (some Mb), by rw [hLB], ⟨_, _, _, rfl⟩, .inr ⟨Mb, n, f, rfl, hX.by_.kept o5 (by omega)⟩, fun e => ?_, by rw [HBs.out]; exact o4⟩
            have hok : okB T = true := by rw [← HLd.out]; exact e
            rw [HBs.out]
            refine ⟨rows, Mb, n, f, GridV.of_own (base := Mb + 1 + 3) (own_kept hX.own o5 (fun g hg => by have := (hX.own.lt g hg).1; omega)) ((hX.rn.kept o5 (fun b _ hb e => by omega)).mono (fun b _ hb => by omega)) (fun b hb => by omega) HRl.out, ?_, rfl, hX.by_.kept o5 (by omega), (hX.byf.kept o5 (fun b _ hb e => by omega)).mono (fun b hb => by omega)⟩
            rw [hX.sum (fun p hp => by unfold okB at hok; rw [List.all_eq_true] at hok; exact hok p hp)]
            rfl
          | succ gk =>
            have hlt : i < T.length := by omega
            have d1 : decide ((i : Int) < T.length) = true := by simp; omega
            have t1 : (0 : Int) ≤ (i : Int) := by omega
            have t2 : (i : Int) < (T.length : Int) := by omega
            obtain ⟨b, off, hA, hbb, hcell⟩ := HX8.out.s.tab.at_.resolve_left (by omega)
            subst hA
            obtain ⟨y0, y1, y2, y3, y4, y5, y6, y7⟩ := (hcell i hlt).all
            have HST := zzh (HCT.out.ok.st i T[i] (List.getElem?_eq_getElem hlt))
            have HFit := zzh (HCT.out.fit T[i] (List.getElem_mem hlt))
            have HMem := zzh (List.getElem_mem hlt)
            have HND : Hid (ndAt T i = T[i]) := zzh (ndAt_nat hlt)
            have HNext : Hid ((intsB T (ndAt T i) = true → ∃ a m q, f (pairKey (ndAt T i).a0 (ndAt T i).a1) = some (.slice (some a) m q)) → ∀ k : Nat, k < i + 1 → intsB T (ndAt T k) = true → ∃ a m q, f (pairKey (ndAt T k).a0 (ndAt T k).a1) = some (.slice (some a) m q)) := zzh (fun e k hk => by
              by_cases hki : k = i
              · rw [hki]; exact e
              · exact HI.out k (by omega))
            clear hcell hbb
            generalize T[i] = n2 at *
            rw [HND.out] at HNext
            have hbN : Below wr.heap.size wr (wr.alloc (.cells (nodeCells n2).toArray 51)) := (Below.refl _ wr).alloc (Nat.le_refl _) _
            have HX9 := zzh (HX8.out.below hbN)
            have HBN := zzh (Blk.new wr 51 (nodeCells n2).toArray)
            have KI := zzh (sints_ok c n2 (fun ho => by have := (HST.out.two (.inl ho)).1; omega) HX9.out.s.tab)
            have q1 := HX9.out.s.t1.cell 0
            have n0 := HBN.out.cell 0
            have n1 := HBN.out.cell 1
            have n2' := HBN.out.cell 2
            have n3 := HBN.out.cell 3
            have n4 := HBN.out.cell 4
            have n5 := HBN.out.cell 5
            have n6 := HBN.out.cell 6
            have n7 := HBN.out.cell 7
            simp only [nodeVal, nodeCells, zzg, zzi, zzj] at q1 n0 n1 n2' n3 n4 n5 n6 n7 KI HX9 HBN
            obtain ⟨bi, hbi⟩ : ∃ bi, intsB T n2 = bi := ⟨_, rfl⟩
            have HBI := zzh hbi
            rw [hbi] at KI
            clear hbN hbi
            go_wp2_with fail
            refine KI.out.mono ?_
            rintro e w5 ⟨rfl, hb⟩
            have HX10 := zzh (HX9.out.below hb)
            have HBN5 := zzh (HBN.out.below hb HBN.out.lt)
            clear hb q1 n0 n1 n2' n3 n4 n5 n6 n7 KI
            cases bi with
            | false =>
              have HN2 := zzh (HNext.out (fun e => by rw [HBI.out] at e; cases e))
              go_wp2
              go_roundg gk
              case measure => omega
              case rel => exact ⟨i + 1, by omega, by go_num, HX10.out, HN2.out⟩
            | true =>
              have hop : n2.op = 6 := by have := HBI.out; unfold intsB at this; simp at this; exact this.1
              obtain ⟨⟨h0, h1⟩, h2, h3⟩ := HST.out.two (.inl hop)
              have s3 : w5.cell? ⟨B + 1 + 1, 0, none⟩ = some (.map (some Mb)) := HX10.out.s.t3.cell 0
              have n2' := HBN5.out.cell 2
              have n3 := HBN5.out.cell 3
              simp only [zzg, zzi, zzj] at n2' n3
              obtain ⟨kl, hkl⟩ := pair_key_in (x := n2.a0) (y := n2.a1) (by unfold In64; omega) (by unfold In64; omega)
              have hlk := HX10.out.by_.look pair_key Tryz.underlying114 (zero_rows w5) hkl false
              have HFits := zzh (show (ndAt T n2.a0).sort = 1 ∧ n2.a0 < n2.a1 by
                have hs := HBI.out
                unfold intsB at hs
                simp at hs
                have hf := HFit.out
                unfold fitB at hf
                rw [hop] at hf
                simp [hs.2] at hf
                exact ⟨hs.2, hf.1⟩)
              have HOp := zzh hop
              clear hkl hop h0 h1 h2 h3
              simp only [pairKey] at hlk
              by_cases hin : (n2.a0, n2.a1) ∈ pairsL (nodesT T)
              · obtain ⟨v, rv, hv, hgv, _, hvl⟩ := HX10.out.byf.2 _ hin
                obtain ⟨VA, vc, rfl, hvx⟩ := hgv.form
                clear hvx
                simp only [pairKey] at hv
                rw [hv] at hlk
                dsimp only at hlk
                have heq := fun W => Lib.run_eql_slice_nil (P := Tryz.prog) W 46 27 VA rv.length vc 0 0 Tryz.underlying46
                cases VA with
                | none =>
                  have HBad : Hid (laidB T = false) := zzh (by
                    rw [HGl.out]
                    have : okB T = false := by
                      cases ho : okB T with
                      | false => rfl
                      | true =>
                        unfold okB at ho
                        rw [List.all_eq_true] at ho
                        obtain ⟨l, hl⟩ := Option.isSome_iff_exists.1 (ho _ hin)
                        obtain ⟨_, a, m, q, e⟩ := hvl l hl
                        cases e
                    rw [this]
                    simp)
                  simp only [Option.isNone_none] at heq
                  clear hv hgv hvl
                  have s2 := HX10.out.t2.cell 0
                  have f2 := HX10.out.t2.frozen 0
                  have f3 : w5.frozen? ⟨B + 1 + 1, 0, none⟩ = false := HX10.out.s.t3.frozen 0
                  simp only [zzg, zzi] at s2
                  go_wp2
                  change bodyPostM _ _ _ _ _ _ _ ((w5.setCell ⟨B + 1, 0, none⟩ (.slice none 0 0)).setCell ⟨B + 2, 0, none⟩ (.map none))
                  obtain ⟨o1, o2, o3, o4, _⟩ := HX10.out.fin (.slice none 0 0) (.map none)
                  refine ⟨by simp, .inl ⟨_, _, rfl, run_takeDeferred o1, ?_⟩⟩
                  have o3' : (((w5.setCell ⟨B + 1, 0, none⟩ (.slice none 0 0)).setCell ⟨B + 2, 0, none⟩ (.map none)).putObj (Mb + 1 + 1) (.deferred none)).cell? ⟨B + 1 + 1, 0, none⟩ = some (.map none) := o3
                  refine ⟨.tuple #[.slice none 0 0, .map none, .bool false], by simp [results, Tryz.results66, go_sem, o2, o3'], ?_⟩
                  exact ⟨.slice none 0 0, .map none, by rw [HBad.out], ⟨none, 0, 0, rfl⟩, .inl rfl, fun e => (by rw [HBad.out] at e; cases e), by rw [HBs.out]; exact o4⟩
                | some va =>
                  have HN2 := zzh (HNext.out (fun _ => ⟨va, _, _, by simp only [pairKey]; exact hv⟩))
                  simp only [Option.isNone_some] at heq
                  clear hv hgv hvl
                  go_wp2
                  go_roundg gk
                  case measure => omega
                  case rel => exact ⟨i + 1, by omega, by go_num, HX10.out, HN2.out⟩
              · have hv := HX10.out.byf.1 _ _ hin
                have HBad : Hid (laidB T = false) := zzh (by
                  rw [HGl.out]
                  have : eqsB T = false := by
                    cases ho : eqsB T with
                    | false => rfl
                    | true =>
                      unfold eqsB at ho
                      rw [List.all_eq_true] at ho
                      have h1 := ho n2 HMem.out
                      simp only [decide_eq_true_eq] at h1
                      obtain ⟨m1, m2⟩ := h1 ⟨HOp.out, HFits.out.1⟩
                      exact absurd ((mem_pairs (nodes_sorted T)).2 ⟨m1, m2, HFits.out.2⟩) hin
                  rw [this]
                  simp)
                simp only [pairKey] at hv
                rw [hv] at hlk
                dsimp only at hlk
                obtain ⟨z0, hz0⟩ : ∃ z0 : Nat, 0 = z0 := ⟨0, rfl⟩
                rw [hz0] at hlk
                have heq := fun W => Lib.run_eql_slice_nil (P := Tryz.prog) W 46 27 none z0 z0 0 0 Tryz.underlying46
                clear hz0
                simp only [Option.isNone_none] at heq
                clear hv
                have s2 := HX10.out.t2.cell 0
                have f2 := HX10.out.t2.frozen 0
                have f3 : w5.frozen? ⟨B + 1 + 1, 0, none⟩ = false := HX10.out.s.t3.frozen 0
                simp only [zzg, zzi] at s2
                go_wp2
                change bodyPostM _ _ _ _ _ _ _ ((w5.setCell ⟨B + 1, 0, none⟩ (.slice none 0 0)).setCell ⟨B + 2, 0, none⟩ (.map none))
                obtain ⟨o1, o2, o3, o4, _⟩ := HX10.out.fin (.slice none 0 0) (.map none)
                refine ⟨by simp, .inl ⟨_, _, rfl, run_takeDeferred o1, ?_⟩⟩
                have o3' : (((w5.setCell ⟨B + 1, 0, none⟩ (.slice none 0 0)).setCell ⟨B + 2, 0, none⟩ (.map none)).putObj (Mb + 1 + 1) (.deferred none)).cell? ⟨B + 1 + 1, 0, none⟩ = some (.map none) := o3
                refine ⟨.tuple #[.slice none 0 0, .map none, .bool false], by simp [results, Tryz.results66, go_sem, o2, o3'], ?_⟩
                exact ⟨.slice none 0 0, .map none, by rw [HBad.out], ⟨none, 0, 0, rfl⟩, .inl rfl, fun e => (by rw [HBad.out] at e; cases e), by rw [HBs.out]; exact o4⟩
end Go.Proofs.YtlipnnibagidiaaGreat
namespace Go.Proofs.YtlipnnibagidiaaGreat
open Go.RowKit Go.Lib
open Go.Maps (Keyed)
attribute [local go_sem] Oper.semAt_some
theorem ownL_low {w : World} {a b : Nat} {v : Value} {l : List Int} (h : OwnL w b v l) (hb : a ≤ b) : OwnL w a v l := ⟨h.1, h.2.imp id fun ⟨g, cap, cur, e, h1, r⟩ => ⟨g, cap, cur, e, Nat.le_trans hb h1, r⟩⟩
def SNodesIs (T : List Nd) (w : World) (e : Ending) (w' : World) : Prop :=
  ∃ v, e = .returned v ∧ OwnL w' w.heap.size v (if coreB T then nodesT T else []) ∧ Below w.heap.size w w'
set_option maxRecDepth 100000 in
set_option maxHeartbeats 2000000 in
theorem snodes_ok {T : List Nd} {w : World} {A : Option Addr} (c : Nat) (hc : T.length ≤ c) (h : Tab w A T) :
    Calls Tryz.prog 29 #[.agg #[.slice A T.length c]] w (SNodesIs T w) := by
  have H := zzh h
  have HB0 : Hid (Below w.heap.size w (w.alloc (.cells #[.slice A T.length c] 33))) := zzh ((Below.refl _ w).alloc (Nat.le_refl _) _)
  have HT0 : Hid (Blk (w.alloc (.cells #[.slice A T.length c] 33)) w.heap.size 33 #[.slice A T.length c]) := zzh (Blk.new w _ _)
  have HC := zzh hc
  clear hc h
  go_enter Tryz.func29, Tryz.ntmps29
  go_wp2_with fail
  refine (score_ok c HC.out (H.out.below HB0.out)).mono ?_
  rintro e w1 ⟨rfl, hb1⟩
  have HB1 := zzh (HB0.out.trans (hb1.mono HB0.out.size))
  have HT1 := zzh (HT0.out.below hb1 HT0.out.lt)
  have a1 := HT1.out.cell 0
  simp only [zzg, zzi] at a1
  clear hb1
  have HG : Hid (SNodesIs T w = fun e w' => ∃ v, e = .returned v ∧ OwnL w' w.heap.size v (if coreB T then nodesT T else []) ∧ Below w.heap.size w w') := zzh rfl
  generalize hcb : coreB T = cb at *
  cases cb with
  | false =>
    clear hcb
    go_wp2
    refine bodyPost_ret (v := .slice none 0 0) (by simp [results, Tryz.results29, go_sem]) rfl ?_
    rw [HG.out]
    exact ⟨_, rfl, World.ownsRow_nil _ _ _ _, HB1.out⟩
  | true =>
    have HCT := zzh (coreB_iff.1 hcb)
    clear hcb
    go_wp2_with fail
    refine (nodes_ok c (H.out.below HB1.out) HCT.out.ok).mono ?_
    rintro e w2 ⟨v, rfl, hv, hb2⟩
    have HV := zzh hv
    have HB2 := zzh hb2
    clear hv hb2
    go_wp2
    refine bodyPost_ret (v := v) (by simp [results, Tryz.results29, go_sem]) rfl ?_
    rw [HG.out]
    exact ⟨v, rfl, ownL_low HV.out HB1.out.size, HB1.out.trans (HB2.out.mono HB1.out.size)⟩
def SLaidIs (T : List Nd) (w : World) (e : Ending) (w' : World) : Prop := e = .returned (.bool (laidB T)) ∧ Below w.heap.size w w'
set_option maxRecDepth 100000 in
set_option maxHeartbeats 2000000 in
theorem slaid_ok {T : List Nd} {w : World} {A : Option Addr} (c : Nat) (hc : T.length ≤ c) (h : Tab w A T) (hl : (nodesT T).length ≤ 500) :
    Calls Tryz.prog 52 #[.agg #[.slice A T.length c]] w (SLaidIs T w) := by
  have KA := zzh (fun W (hb : Below w.heap.size w W) => all_ok c hc (h.below hb) hl)
  have HB0 : Hid (Below w.heap.size w (w.alloc (.cells #[.slice A T.length c] 33))) := zzh ((Below.refl _ w).alloc (Nat.le_refl _) _)
  have KB := zzh (KA.out _ HB0.out)
  clear hc h hl
  go_enter Tryz.func52, Tryz.ntmps52
  go_wp2_with fail
  refine KB.out.mono ?_
  rintro e w1 ⟨v, m, rfl, ⟨VA, vn, vc, rfl⟩, hm, hx, hb⟩
  have HB1 := zzh (HB0.out.trans (hb.mono HB0.out.size))
  clear hx hb hm
  go_wp2
  refine bodyPost_ret (v := .bool (laidB T)) (by simp [results, Tryz.results52, go_sem]) rfl ?_
  exact ⟨rfl, HB1.out⟩
def SAllIs (T : List Nd) (w : World) (e : Ending) (w' : World) : Prop :=
  ∃ v rows, e = .returned (.tuple #[v, .int .i64 (if laidB T then 0 else 2)]) ∧ GridV (fun b => w.heap.size ≤ b) w' v rows ∧ rows.map (fun r => r.2.2) = (if laidB T then allT T else []) ∧ Below w.heap.size w w'
theorem GridV.nil (N : Nat → Prop) (w : World) : GridV N w (.slice none 0 0) [] := ⟨by simp, ⟨none, 0, rfl, fun _ => rfl, Nat.le_refl _, .inl rfl⟩, fun r hr => by cases hr⟩
set_option maxRecDepth 100000 in
set_option maxHeartbeats 2000000 in
theorem sall_ok {T : List Nd} {w : World} {A : Option Addr} (c : Nat) (hc : T.length ≤ c) (h : Tab w A T) (hl : (nodesT T).length ≤ 500) :
    Calls Tryz.prog 32 #[.agg #[.slice A T.length c]] w (SAllIs T w) := by
  have KA := zzh (fun W (hb : Below w.heap.size w W) => all_ok c hc (h.below hb) hl)
  have HB0 : Hid (Below w.heap.size w (w.alloc (.cells #[.slice A T.length c] 33))) := zzh ((Below.refl _ w).alloc (Nat.le_refl _) _)
  have KB := zzh (KA.out _ HB0.out)
  clear hc h hl
  go_enter Tryz.func32, Tryz.ntmps32
  go_wp2_with fail
  refine KB.out.mono ?_
  rintro e w1 ⟨v, m, rfl, ⟨VA, vn, vc, rfl⟩, hm, hx, hb⟩
  have HB1 := zzh (HB0.out.trans (hb.mono HB0.out.size))
  have HX := zzh hx
  have HG : Hid (SAllIs T w = fun e w' => ∃ v rows, e = .returned (.tuple #[v, .int .i64 (if laidB T then 0 else 2)]) ∧ GridV (fun b => w.heap.size ≤ b) w' v rows ∧ rows.map (fun r => r.2.2) = (if laidB T then allT T else []) ∧ Below w.heap.size w w') := zzh rfl
  clear hx hb hm
  generalize laidB T = lb at *
  cases lb with
  | false =>
    go_wp2
    refine bodyPost_ret (v := .tuple #[.slice none 0 0, .int .i64 2]) (by simp [results, Tryz.results32, go_sem]) rfl ?_
    rw [HG.out]
    exact ⟨_, [], rfl, GridV.nil _ _, rfl, HB1.out⟩
  | true =>
    obtain ⟨rows, Mb, n, f, hgv, hr, -, -, -⟩ := HX.out rfl
    have HGV := zzh hgv
    have HR := zzh hr
    clear hgv hr
    go_wp2
    refine bodyPost_ret (v := .tuple #[.slice VA vn vc, .int .i64 0]) (by simp [results, Tryz.results32, go_sem]) rfl ?_
    rw [HG.out]
    exact ⟨_, rows, rfl, HGV.out.mono (fun b _ hb => Nat.le_trans HB0.out.size hb), HR.out, HB1.out⟩
end Go.Proofs.YtlipnnibagidiaaGreat
namespace Go.Proofs.YtlipnnibagidiaaGreat
open Go.RowKit Go.Lib
open Go.Maps (Keyed)
attribute [local go_sem] Oper.semAt_some
def NewOwn (w : World) (e : Ending) (w' : World) : Prop := ∃ g, e = .returned (.agg #[.slice (some ⟨g, 0, none⟩) 2 2]) ∧ w'.ownsRow w.heap.size 51 8 (.slice (some ⟨g, 0, none⟩) 2 2) 2 (twoNd.flatMap nodeCells) ∧ Below w.heap.size w w'
theorem rnew_own (w : World) : Calls Tryz.prog 41 #[] w (NewOwn w) := by
  have H : Hid (NewOwn w (.returned (.agg #[.slice (some ⟨w.heap.size + 1, 0, none⟩) 2 2])) ((w.alloc (.cells #[.slice (some ⟨w.heap.size + 1, 0, none⟩) 2 2] 33)).alloc (.cells (twoNd.flatMap nodeCells).toArray 51))) := zzh ⟨_, rfl, ⟨rfl, .inr ⟨_, 2, (twoNd.flatMap nodeCells).toArray, rfl, by omega, Blk.new_at (by simp) _ _, by decide, by decide, rfl, rfl⟩⟩, ((Below.refl _ w).alloc (Nat.le_refl _) _).alloc (by simp) _⟩
  go_enter Tryz.func41, Tryz.ntmps41
  go_wp2
  refine bodyPost_ret (v := .agg #[.slice (some ⟨w.heap.size + 1, 0, none⟩) 2 2]) (by simp [results, Tryz.results41, go_sem]) rfl ?_
  exact H.out
theorem shW_wf : ∀ n ∈ shW, NdWf n := by
  intro n hn
  simp only [shW, List.mem_cons, List.not_mem_nil, or_false] at hn
  rcases hn with rfl | rfl | rfl | rfl | rfl | rfl
  all_goals
    refine ⟨by decide, by decide, fun j => ?_, by decide, by decide, by decide⟩
    unfold Nd.arg
    repeat' split
    all_goals decide
theorem own_tabW {w : World} {B g c : Nat} (h : w.ownsRow B 51 8 (.slice (some ⟨g, 0, none⟩) (2 + 4) c) (2 + 4) (twoNd.flatMap nodeCells ++ (shW.drop 2).flatMap nodeCells)) : Tab w (some ⟨g, 0, none⟩) shW := by
  have e : twoNd.flatMap nodeCells ++ (shW.drop 2).flatMap nodeCells = shW.flatMap nodeCells := rfl
  rw [e] at h
  refine ⟨by decide, .inr ⟨g, 0, rfl, own_lt h, fun i hi => ⟨own_lt h, fun j hj => ?_, shW_wf _ (List.getElem_mem hi)⟩⟩⟩
  have := own_cell nodeCells (fun _ => rfl) h hi hj
  simpa using this
def shO : List Nd := shW ++ [eqNd 2 3]
theorem shO_nodes : (nodesT shO).length ≤ 500 := by decide +kernel
theorem shW_nodes5 : (nodesT shW).length ≤ 500 := by decide +kernel
theorem shO_laid : laidB shO = true := by decide +kernel
theorem shW_laid : laidB shW = false := by decide +kernel
theorem shO_all : allT shO = [[13]] := by decide +kernel
theorem wnodes_ok {w : World} {A : Option Addr} (c : Nat) (hc : 6 ≤ c) (h : Tab w A shW) :
    Calls Tryz.prog 29 #[.agg #[.slice A 6 c]] w fun e w' => ∃ g q, e = .returned (.slice (some ⟨g, 0, none⟩) 2 q) ∧ w'.cell? ⟨g, 0, none⟩ = some (.int .i64 2) ∧ w'.cell? ⟨g, 1, none⟩ = some (.int .i64 3) ∧ w.heap.size ≤ g ∧ g < w'.heap.size ∧ Below w.heap.size w w' := by
  refine (snodes_ok (T := shW) c hc h).mono ?_
  rintro e w' ⟨v, rfl, ho, hb⟩
  rw [if_pos shW_core, shW_nodes] at ho
  obtain ⟨g, q, rfl, h1, h2, _⟩ := own_form ho (by decide)
  refine ⟨g, q, rfl, ?_, ?_, h1, h2, hb⟩
  · exact ho.cells (g := g) rfl 0 (.int .i64 2) rfl
  · exact ho.cells (g := g) rfl 1 (.int .i64 3) rfl
theorem wput_ok {w : World} {A : Option Addr} (c : Nat) (hc : 6 ≤ c) (h : Tab w A shW) :
    Calls Tryz.prog 25 #[.agg #[.slice A 6 c], .int .i64 20] w fun e w' => ∃ A' q, e = .returned (.tuple #[.agg #[.slice A' 7 q], .int .i64 0]) ∧ Tab w' A' shO ∧ 7 ≤ q ∧ Below w.heap.size w w' := by
  refine (sput_ok (T := shW) c 20 hc h (by decide)).mono ?_
  rintro e w' ⟨A', q, rfl, ht, hq, hb⟩
  obtain ⟨p1, p2⟩ := shW_put
  rw [p2] at ht hq
  rw [p1, p2]
  exact ⟨A', q, rfl, ht, hq, hb⟩
theorem wall_ok {w : World} {A : Option Addr} (c : Nat) (hc : 7 ≤ c) (h : Tab w A shO) :
    Calls Tryz.prog 32 #[.agg #[.slice A 7 c]] w fun e w' => ∃ b off q b2 off2 q2, e = .returned (.tuple #[.slice (some ⟨b, off, none⟩) 1 q, .int .i64 0]) ∧ w'.cell? ⟨b, off, none⟩ = some (.slice (some ⟨b2, off2, none⟩) 1 q2) ∧ w'.cell? ⟨b2, off2, none⟩ = some (.int .i64 13) ∧ b < w'.heap.size ∧ b2 < w'.heap.size ∧ 1 ≤ q ∧ 1 ≤ q2 ∧ Below w.heap.size w w' := by
  refine (sall_ok (T := shO) c hc h shO_nodes).mono ?_
  rintro e w' ⟨v, rows, rfl, hg, hr, hb⟩
  rw [if_pos shO_laid, shO_all] at hr
  rw [if_pos shO_laid]
  obtain ⟨x, hx⟩ : ∃ x, rows = [x] := by
    have h1 := congrArg List.length hr
    rw [List.length_map] at h1
    match rows, h1 with
    | [x], _ => exact ⟨x, rfl⟩
  obtain ⟨a, q2, l⟩ := x
  subst hx
  have hl : l = [13] := by simpa using hr
  subst hl
  obtain ⟨VA, q, rfl, _, hq, hat⟩ := hg.form
  obtain ⟨b, off, rfl, _, hlt, hcell⟩ := hat.resolve_left (by simp)
  obtain ⟨hrow, _, hq2⟩ := hg.rows (a, q2, [13]) (by simp)
  obtain ⟨b2, off2, ha, _, hlt2, hcell2⟩ := hrow.at_.resolve_left (by simp)
  simp only at ha
  subst ha
  exact ⟨b, off, q, b2, off2, q2, rfl, hcell 0 (by simp), hcell2 0 (by simp), hlt, hlt2, hq, hq2, hb⟩
theorem wlaidO_ok {w : World} {A : Option Addr} (c : Nat) (hc : 7 ≤ c) (h : Tab w A shO) :
    Calls Tryz.prog 52 #[.agg #[.slice A 7 c]] w fun e w' => e = .returned (.bool true) ∧ Below w.heap.size w w' := by
  refine (slaid_ok (T := shO) c hc h shO_nodes).mono ?_
  rintro e w' ⟨rfl, hb⟩
  rw [shO_laid]
  exact ⟨rfl, hb⟩
theorem wlaidW_ok {w : World} {A : Option Addr} (c : Nat) (hc : 6 ≤ c) (h : Tab w A shW) :
    Calls Tryz.prog 52 #[.agg #[.slice A 6 c]] w fun e w' => e = .returned (.bool false) ∧ Below w.heap.size w w' := by
  refine (slaid_ok (T := shW) c hc h shW_nodes5).mono ?_
  rintro e w' ⟨rfl, hb⟩
  rw [shW_laid]
  exact ⟨rfl, hb⟩
set_option maxRecDepth 100000 in
set_option maxHeartbeats 4000000 in
theorem wakes_ok (w : World) : Calls Tryz.prog 24 #[] w (fun e w' => e = .returned (.bool true) ∧ Below w.heap.size w w') := by
  have hfd : ∀ (W : World) (a : Option Addr) (l c : Nat), (Instr.field 33 (.agg #[.slice a l c]) 0).run Tryz.prog W = .ok (.slice a l c) W := fun _ _ _ _ => by kernel_rfl
  obtain ⟨i0, hi, hz0, hz1, hz2⟩ := info_parts node_info
  go_enter Tryz.func24, Tryz.ntmps24
  go_wp2_with fail
  refine (rnew_own _).mono ?_
  rintro e w1 ⟨g, rfl, hown, hb⟩
  have HO1 := zzh hown
  have HB1 := zzh hb
  have HX1 : Hid (Blk (w1.alloc (.cells #[.slice (some ⟨g, 0, none⟩) 2 2] 33)) w1.heap.size 33 #[.slice (some ⟨g, 0, none⟩) 2 2]) := zzh (Blk.new w1 _ _)
  have HO2 : Hid ((w1.alloc (.cells #[.slice (some ⟨g, 0, none⟩) 2 2] 33)).ownsRow w.heap.size 51 8 (.slice (some ⟨g, 0, none⟩) 2 2) 2 (twoNd.flatMap nodeCells)) := zzh (own_kept hown ((Kept.refl (fun _ => False) w1).alloc _) (fun _ _ h => h))
  have HBW : Hid (Below w.heap.size w (w1.alloc (.cells #[.slice (some ⟨g, 0, none⟩) 2 2] 33))) := zzh (hb.alloc hb.size _)
  obtain ⟨w2, hw2⟩ : ∃ w2, w1.alloc (.cells #[.slice (some ⟨g, 0, none⟩) 2 2] 33) = w2 := ⟨_, rfl⟩
  rw [hw2] at HX1 HO2 HBW
  have x1 := HX1.out.cell 0
  have fx1 := HX1.out.frozen 0
  simp only [zzg, zzi] at x1
  clear hown hb HO1
  have HLT := zzh (show w1.heap.size < w2.heap.size from HX1.out.lt)
  go_wp2_with (at_builtin; (refine wpList_append_lies _ rfl (.tmp 9) (.tmp 17) 31 rfl w.heap.size 51 i0 (.agg #[.int .i8 0, .int .i8 0, .int .i64 0, .int .i64 0, .int .i64 0, .int .i64 0, .int .i64 0, .int .i64 0]) 8 56 Tryz.underlying31 hi hz0 hz1 hz2 rfl (by decide) _ 2 (twoNd.flatMap nodeCells) rfl (own_kept HO2.out ((Kept.refl (fun _ => False) w2).alloc _) (fun _ _ h => h)) ⟨w2.heap.size, 0, none⟩ 4 4 ((shW.drop 2).flatMap nodeCells) rfl rfl (World.news_of_block (Blk.new w2 _ _)) (by decide) (by decide) (by decide) (by decide) (by simp; have := HBW.out.size; omega) _ rfl ?_; intro ga ca w3 ho3 hg3 _ _; have HO3 := zzh ho3; have HB3 := zzh (Below.grown (HBW.out.alloc HBW.out.size _) hg3 (by have := HBW.out.size; simp; omega) (fun k hk => (HO2.out.lt k hk).1)); have HX3 := zzh ((HX1.out.alloc (.cells ((shW.drop 2).flatMap nodeCells).toArray 51)).grown hg3 (fun e => own_blk_ne HO2.out HX1.out (by decide) e.symm)); have cx := HX3.out.cell 0; have fx := HX3.out.frozen 0; simp only [zzg, zzi] at cx; clear ho3 hg3))
  have ho4 := own_kept HO3.out (Kept.set1 w3 w1.heap.size 0 (.slice (some ⟨ga, 0, none⟩) 6 ca)) (fun k hk e => own_blk_ne HO3.out HX3.out (by decide) (by rw [hk, e]))
  have HT4 := zzh (own_tabW ho4)
  have HC4 : Hid (6 ≤ ca) := zzh (by obtain ⟨_, _, e, _, _, hc⟩ := own_form ho4 (by omega); injection e with _ _ e; omega)
  have HX4 := zzh (HX3.out.set_ 0 (.slice (some ⟨ga, 0, none⟩) 6 ca))
  simp only [zza, zzb] at HX4
  have HB4 := zzh (HB3.out.setCell (p := ⟨w1.heap.size, 0, none⟩) HB1.out.size (.slice (some ⟨ga, 0, none⟩) 6 ca))
  clear ho4 cx fx x1 fx1 hfd hi hz0 hz1 hz2 hw2 HO3 HX3 HO2 HX1 HB3 HBW HLT
  generalize w3.setCell ⟨w1.heap.size, 0, none⟩ (.slice (some ⟨ga, 0, none⟩) 6 ca) = w4 at *
  have x4 := HX4.out.cell 0
  simp only [zzg, zzi] at x4
  refine (wnodes_ok ca HC4.out HT4.out).mono ?_
  rintro e w5 ⟨lg, lq, rfl, l0, l1, lg1, lg2, hb5⟩
  have HT5 := zzh (HT4.out.below hb5)
  have HX5 := zzh (HX4.out.below hb5 HX4.out.lt)
  have HB5 := zzh (HB4.out.trans (hb5.mono HB4.out.size))
  have x5 := HX5.out.cell 0
  simp only [zzg, zzi] at x5
  clear hb5 x4
  go_wp2_with fail
  refine (wput_ok ca HC4.out HT5.out).mono ?_
  rintro e w6 ⟨A6, q6, rfl, ht6, hq6, hb6⟩
  have HB6 := zzh (HB5.out.trans (hb6.mono HB5.out.size))
  have HT6 := zzh (HT5.out.below hb6)
  have HX6 := zzh (HX5.out.below hb6 HX5.out.lt)
  have HO6 := zzh ht6
  have HQ6 := zzh hq6
  have L0 : Hid (w6.cell? ⟨lg, 0, none⟩ = some (.int .i64 2)) := zzh (by rw [← l0]; exact hb6.cell lg2)
  have L1 : Hid (w6.cell? ⟨lg, 1, none⟩ = some (.int .i64 3)) := zzh (by rw [← l1]; exact hb6.cell lg2)
  have LG : Hid (lg < w6.heap.size) := zzh (Nat.lt_of_lt_of_le lg2 hb6.size)
  clear hb6 ht6 hq6 l0 l1 lg1 lg2 x5
  have hbA : Below w6.heap.size w6 (w6.alloc (.cells #[.slice A6 7 q6] 33)) := (Below.refl _ w6).alloc (Nat.le_refl _) _
  have HB7 := zzh (HB6.out.trans (hbA.mono HB6.out.size))
  have HT7 := zzh (HT6.out.below hbA)
  have HX7 := zzh (HX6.out.below hbA HX6.out.lt)
  have HO7 := zzh (HO6.out.below hbA)
  have HP7 := zzh (Blk.new w6 33 #[.slice A6 7 q6])
  have K0 : Hid ((w6.alloc (.cells #[.slice A6 7 q6] 33)).cell? ⟨lg, 0, none⟩ = some (.int .i64 2)) := zzh (by rw [← L0.out]; exact hbA.cell LG.out)
  have K1 : Hid ((w6.alloc (.cells #[.slice A6 7 q6] 33)).cell? ⟨lg, 1, none⟩ = some (.int .i64 3)) := zzh (by rw [← L1.out]; exact hbA.cell LG.out)
  have KG : Hid (lg < (w6.alloc (.cells #[.slice A6 7 q6] 33)).heap.size) := zzh (Nat.lt_of_lt_of_le LG.out hbA.size)
  have x7 := HP7.out.cell 0
  simp only [zzg, zzi] at x7
  clear hbA L0 L1 LG
  go_wp2_with fail
  refine (wall_ok q6 HQ6.out HO7.out).mono ?_
  rintro e w8 ⟨b, off, q, b2, off2, q2, rfl, c1, c2, hlt1, hlt2, hq1, hq2, hb8⟩
  have x8 := (HP7.out.below hb8 HP7.out.lt).cell 0
  have y8 := (HX7.out.below hb8 HX7.out.lt).cell 0
  have l0 : w8.cell? ⟨lg, 0, none⟩ = some (.int .i64 2) := by rw [← K0.out]; exact hb8.cell KG.out
  have l1 : w8.cell? ⟨lg, 1, none⟩ = some (.int .i64 3) := by rw [← K1.out]; exact hb8.cell KG.out
  have HB8 := zzh (HB7.out.trans (hb8.mono HB7.out.size))
  have HT8 := zzh (HT7.out.below hb8)
  have HO8 := zzh (HO7.out.below hb8)
  have HX8 := zzh (HX7.out.below hb8 HX7.out.lt)
  simp only [zzg, zzi] at x8 y8
  clear hb8 x7
  go_wp2_with fail
  refine (wlaidO_ok q6 HQ6.out HO8.out).mono ?_
  rintro e w9 ⟨rfl, hb9⟩
  have y9 := (HX8.out.below hb9 HX8.out.lt).cell 0
  have HB9 := zzh (HB8.out.trans (hb9.mono HB8.out.size))
  have HT9 := zzh (HT8.out.below hb9)
  simp only [zzg, zzi] at y9
  clear hb9 x8 y8 l0 l1 c1 c2
  go_wp2_with fail
  refine (wlaidW_ok ca HC4.out HT9.out).mono ?_
  rintro e w10 ⟨rfl, hb10⟩
  have HB10 := zzh (HB9.out.trans (hb10.mono HB9.out.size))
  clear hb10 y9
  go_wp2
  refine bodyPost_ret (v := .bool true) (by simp [results, Tryz.results24, go_sem]) rfl ?_
  exact ⟨rfl, HB10.out⟩
end Go.Proofs.YtlipnnibagidiaaGreat

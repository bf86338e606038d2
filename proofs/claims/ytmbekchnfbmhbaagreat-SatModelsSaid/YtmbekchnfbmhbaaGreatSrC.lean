/- The search, as it lies. -/
import Derived.Test.YtmbekchnfbmhbaaGreatSatF
import Derived.Test.YtmbekchnfbmhbaaGreatHeapN
namespace Go.Proofs.YtmbekchnfbmhbaaGreat
open Go.RowKit Go.Lib

abbrev RowT := Option Addr × Nat × List Int
/-- Where the search's own blocks lie. -/
structure Bl where
  H0 : Nat
  bs : Nat
  bt : Nat
  ba : Nat
  bh : Nat
  b1 : Nat
  b2 : Nat
  /-- a box of run's, kept -/
  b3 : Option (Nat × Array Value)
  /-- the clauses' slice where it is empty and not nil -/
  vb : Option Value
/-- The blocks that the search writes, but for the trail's list. -/
def Zo (b : Bl) (S : Nat → Prop) (vl vp vs : Value) (k : Nat) : Prop := k = b.bs ∨ k = b.bt ∨ k = b.ba ∨ k = b.b1 ∨ k = b.b2 ∨ S k ∨ vl.ownBlock = some k ∨ vp.ownBlock = some k ∨ vs.ownBlock = some k
/-- The blocks that the search writes. -/
def Zs (w : World) (b : Bl) (S : Nat → Prop) (vl vp vs : Value) (k : Nat) : Prop := Zo b S vl vp vs k ∨ LB w b.bt k
/-- A row that the search does not write. -/
structure Off (w : World) (Z : Nat → Prop) (r : RowT) : Prop where
  row : Row .i64 w r.1 r.2.2
  nil : r.1 = none → r.2.1 = 0
  off : 0 < r.2.2.length → ∀ a, r.1 = some a → ¬ Z a.block

theorem Off.kept {w w' : World} {Z Z' C : Nat → Prop} {r : RowT} (h : Off w Z r) (hk : Kept C w w') (hC : ∀ k, C k → Z k) (hZ : ∀ k, Z' k → Z k ∨ w.heap.size ≤ k) : Off w' Z' r := by
  have hn : 0 < r.2.2.length → ∀ a, r.1 = some a → ¬ C a.block := fun h0 a ha hc => h.off h0 a ha (hC _ hc)
  refine ⟨h.row.kept hk hn, h.nil, fun h0 a ha hz => ?_⟩
  have h1 := h.off h0 a ha
  obtain ⟨b, off, e, hb, _⟩ := h.row.at_.resolve_left (by omega)
  rw [e] at ha
  injection ha with ha
  subst ha
  rcases hZ _ hz with h3 | h3
  · exact h1 h3
  · have : b < w.heap.size := hb
    have : w.heap.size ≤ b := h3
    omega

theorem LB.kept {C : Nat → Prop} {w w' : World} {bt k : Nat} (hk : Kept C w w') (hb : bt < w.heap.size) (hC : ¬ C bt) (h : LB w' bt k) : LB w bt k := by
  obtain ⟨v, e, hv⟩ := h
  exact ⟨v, (World.cell?_of_block (w := w) (a := ⟨bt, 0, none⟩) (hk.block bt hb hC)).symm.trans e, hv⟩
theorem TT.lb {w : World} {B bt ba : Nat} {M : Tr} (h : TT w B bt ba M) {k : Nat} (hk : LB w bt k) : B ≤ k ∧ k < w.heap.size ∧ ∃ cs, Blk w k 88 cs := by
  obtain ⟨lv, h⟩ := h
  have h1 := h.lb.1 hk
  exact ⟨(h.own.lt k h1).1, (h.own.lt k h1).2, own_heap h.own h1⟩
theorem TT.typ {w : World} {B bt ba : Nat} {M : Tr} (h : TT w B bt ba M) : (∃ cs, Blk w bt 64 cs) ∧ ∃ cs, Blk w ba 3 cs := by
  obtain ⟨lv, h⟩ := h
  exact ⟨⟨_, h.blk⟩, ⟨_, h.at_⟩⟩
theorem TT.kept {C : Nat → Prop} {w w' : World} {B bt ba : Nat} {M : Tr} (h : TT w B bt ba M) (hk : Kept C w w') (h1 : ¬ C bt) (h2 : ¬ C ba) (h3 : ∀ k cs, Blk w k 88 cs → ¬ C k) : TT w' B bt ba M := by
  obtain ⟨lv, h⟩ := h
  refine ⟨lv, h.keep hk h1 h2 fun g hg => ?_⟩
  obtain ⟨cs, hb⟩ := own_heap h.own hg
  exact h3 g cs hb
theorem Step.kept {B bt ba : Nat} {w w' : World} (h : Step B bt ba w w') : Kept (fun k => k = bt ∨ k = ba ∨ LB w bt k) w w' :=
  ⟨h.below.os, h.below.tape, h.below.output, h.below.size, fun k hk hn => h.keep k hk (fun e => hn (.inl e)) (fun e => hn (.inr (.inl e))) fun hc => hn (.inr (.inr hc))⟩
theorem HH.typ {w : World} {B bh n : Nat} {S : Nat → Prop} {lr : List Nat} (h : HH w B bh n S lr) {k : Nat} (hk : S k) : ∃ t cs, Blk w k t cs ∧ (t = 68 ∨ t = 3) := by
  obtain ⟨va, vr, vt, la, lp, hp, _, _, hS⟩ := h
  rcases (hS k).1 hk with e | e | e | e
  · subst e; exact ⟨_, _, hp.blk, .inl rfl⟩
  · obtain ⟨cs, hb⟩ := own_heap hp.act.own e; exact ⟨_, _, hb, .inr rfl⟩
  · obtain ⟨cs, hb⟩ := own_heap hp.rows.own e; exact ⟨_, _, hb, .inr rfl⟩
  · obtain ⟨cs, hb⟩ := own_heap hp.at_.own e; exact ⟨_, _, hb, .inr rfl⟩
theorem HH.off {w : World} {B bh n : Nat} {S : Nat → Prop} {lr : List Nat} (h : HH w B bh n S lr) {k t : Nat} {cs : Array Value} (hb : Blk w k t cs) (h1 : t ≠ 68) (h2 : t ≠ 3) : ¬ S k := fun hk => by
  obtain ⟨t', cs', hb', h⟩ := h.typ hk
  have : t' = t := Classical.byContradiction fun hne => hb'.ne_ hb hne rfl
  rcases h with h | h
  · exact h1 (this ▸ h)
  · exact h2 (this ▸ h)
theorem HH.low {w : World} {B bh n : Nat} {S : Nat → Prop} {lr : List Nat} (h : HH w B bh n S lr) {k : Nat} (hk : S k) : B ≤ k ∧ k < w.heap.size := by
  obtain ⟨va, vr, vt, la, lp, hp, _, _, hS⟩ := h
  rcases (hS k).1 hk with e | e | e | e
  · subst e; exact ⟨hp.hb, hp.blk.lt⟩
  · exact hp.act.own.lt k e
  · exact hp.rows.own.lt k e
  · exact hp.at_.own.lt k e
theorem HH.kept {C : Nat → Prop} {w w' : World} {B bh n : Nat} {S : Nat → Prop} {lr : List Nat} (h : HH w B bh n S lr) (hk : Kept C w w') (hs : ∀ k, C k → ¬ S k) : HH w' B bh n S lr := by
  obtain ⟨va, vr, vt, la, lp, hp, ho, hA, hS⟩ := h
  exact ⟨va, vr, vt, la, lp, hp.kept hk (fun k hc hh => hs k hc ((hS k).2 hh)), ho, hA, hS⟩
theorem HH.bh_lt {w : World} {B bh n : Nat} {S : Nat → Prop} {lr : List Nat} (h : HH w B bh n S lr) : bh < w.heap.size := by
  obtain ⟨va, vr, vt, la, lp, hp, _, _, _⟩ := h
  exact hp.blk.lt

/-- The search, as it lies: n nodes, k conflicts, the trail M, the clauses R, the steps st, the heap's nodes lr, the phases ph. -/
structure SS (w : World) (b : Bl) (n : Nat) (S : Nat → Prop) (vl vp vs : Value) (k : Int) (M : Tr) (R st : List RowT) (lr : List Nat) (ph : List Int) : Prop where
  blk : Blk w b.bs 52 #[.int .i64 n, .int .i64 k, b.vb.getD vl, .pointer (some ⟨b.bt, 0, none⟩), .pointer (some ⟨b.bh, 0, none⟩), vp, vs, .func (.func 31) #[] #[.pointer (some ⟨b.b1, 0, none⟩), .pointer (some ⟨b.b2, 0, none⟩)]]
  t : TT w b.H0 b.bt b.ba M
  h : HH w b.H0 b.bh n S lr
  l : w.ownsRow b.H0 23 1 vl R.length (R.map encR)
  s : w.ownsRow b.H0 23 1 vs st.length (st.map encR)
  p : w.ownsRow b.H0 26 1 vp n (ph.map (Value.int .i8))
  pval : ∀ x ∈ ph, 0 ≤ x ∧ x ≤ 2
  rows : ∀ r ∈ R ++ st, Off w (Zs w b S vl vp vs) r
  c1 : ∃ x, Blk w b.b1 3 #[.int .i64 x]
  c2 : ∃ A ss cs, Blk w b.b2 23 #[.slice A ss.length cs] ∧ Off w (Zs w b S vl vp vs) (A, cs, ss) ∧ ss.length ≤ cs
  nba : ¬ S b.ba
  nb1 : ¬ S b.b1
  ab1 : b.ba ≠ b.b1
  ls : ∀ g, vl.ownBlock = some g → vs.ownBlock ≠ some g
  l2 : vl.ownBlock ≠ some b.b2
  s2 : vs.ownBlock ≠ some b.b2
  hbs : b.H0 ≤ b.bs
  hb1 : b.H0 ≤ b.b1
  hb2 : b.H0 ≤ b.b2
  nn : n ≤ 65536
  c3 : ∀ q, b.b3 = some q → Blk w q.1 29 q.2
  hvb : ∀ v, b.vb = some v → R = [] ∧ ∃ A, v = .slice A 0 0

section
variable {w w' : World} {b : Bl} {n : Nat} {S : Nat → Prop} {vl vp vs : Value} {k : Int} {M M' : Tr} {R st : List RowT} {lr lr' : List Nat} {ph : List Int}
theorem SS.lt (h : SS w b n S vl vp vs k M R st lr ph) : b.H0 < w.heap.size := Nat.lt_of_le_of_lt h.hbs h.blk.lt
theorem SS.zlow (h : SS w b n S vl vp vs k M R st lr ph) {g : Nat} (hg : Zs w b S vl vp vs g) : b.H0 ≤ g ∧ g < w.heap.size := by
  have ht := h.t.lt
  rcases hg with (e | e | e | e | e | e | e | e | e) | e
  · rw [e]; exact ⟨h.hbs, h.blk.lt⟩
  · rw [e]; exact ⟨ht.1, ht.2.2.1⟩
  · rw [e]; exact ⟨ht.2.1, ht.2.2.2⟩
  · rw [e]; obtain ⟨x, hx⟩ := h.c1; exact ⟨h.hb1, hx.lt⟩
  · rw [e]; obtain ⟨_, _, _, hx, _⟩ := h.c2; exact ⟨h.hb2, hx.lt⟩
  · exact h.h.low e
  · exact h.l.lt g e
  · exact h.p.lt g e
  · exact h.s.lt g e
  · exact ⟨(h.t.lb e).1, (h.t.lb e).2.1⟩
/-- What is not of the search's ints is kept when its trail turns. -/
theorem SS.trail (h : SS w b n S vl vp vs k M R st lr ph) (hs : Step b.H0 b.bt b.ba w w') (ht : TT w' b.H0 b.bt b.ba M') : SS w' b n S vl vp vs k M' R st lr ph := by
  obtain ⟨⟨cT, hbt⟩, ⟨cA, hba⟩⟩ := h.t.typ
  obtain ⟨x1, hc1⟩ := h.c1
  obtain ⟨A, ss, cs, hc2, ho2, hcs⟩ := h.c2
  have hk := hs.kept
  have blkn : ∀ {g t : Nat} {c : Array Value}, Blk w g t c → t ≠ 64 → t ≠ 3 → t ≠ 88 → ¬ (g = b.bt ∨ g = b.ba ∨ LB w b.bt g) := by
    rintro g t c hb h1 h2 h3 (e | e | e)
    · exact hb.ne_ hbt h1 e
    · exact hb.ne_ hba h2 e
    · obtain ⟨_, _, cs, hp⟩ := h.t.lb e
      exact hb.ne_ hp h3 rfl
  have own : ∀ {base t m : Nat} {v : Value} {xs : List Value}, w.ownsRow base t 1 v m xs → t ≠ 64 → t ≠ 3 → t ≠ 88 → w'.ownsRow base t 1 v m xs := fun ho h1 h2 h3 =>
    own_kept ho hk fun g hg => by
      obtain ⟨c, hb⟩ := own_heap ho hg
      exact blkn hb h1 h2 h3
  have hZC : ∀ g, (g = b.bt ∨ g = b.ba ∨ LB w b.bt g) → Zs w b S vl vp vs g := by
    rintro g (e | e | e)
    · exact .inl (.inr (.inl e))
    · exact .inl (.inr (.inr (.inl e)))
    · exact .inr e
  have hZ : ∀ g, Zs w' b S vl vp vs g → Zs w b S vl vp vs g ∨ w.heap.size ≤ g := by
    rintro g (e | e)
    · exact .inl (.inl e)
    · exact (hs.list g e).imp .inr id
  refine ⟨h.blk.kept hk (blkn h.blk (by decide) (by decide) (by decide)), ht, h.h.kept hk ?_, own h.l (by decide) (by decide) (by decide), own h.s (by decide) (by decide) (by decide), own h.p (by decide) (by decide) (by decide), h.pval, fun r hr => (h.rows r hr).kept hk hZC hZ, ⟨x1, hc1.kept hk ?_⟩,
    ⟨A, ss, cs, hc2.kept hk (blkn hc2 (by decide) (by decide) (by decide)), ho2.kept hk hZC hZ, hcs⟩, h.nba, h.nb1, h.ab1, h.ls, h.l2, h.s2, h.hbs, h.hb1, h.hb2, h.nn, fun q hq => (h.c3 q hq).kept hk (blkn (h.c3 q hq) (by decide) (by decide) (by decide)), h.hvb⟩
  · rintro g (e | e | e)
    · rw [e]; exact h.h.off hbt (by decide) (by decide)
    · rw [e]; exact h.nba
    · obtain ⟨_, _, cs, hp⟩ := h.t.lb e
      exact h.h.off hp (by decide) (by decide)
  · rintro (e | e | e)
    · exact hc1.ne_ hbt (by decide) e
    · exact h.ab1 e.symm
    · obtain ⟨_, _, cs, hp⟩ := h.t.lb e
      exact hc1.ne_ hp (by decide) rfl
theorem zs_heap {S S' : Nat → Prop} {N : Nat} (hS : ∀ g, S' g → S g ∨ N ≤ g) (hL : ∀ g, LB w' b.bt g → LB w b.bt g) : ∀ g, Zs w' b S' vl vp vs g → Zs w b S vl vp vs g ∨ N ≤ g := by
  rintro g ((e | e | e | e | e | e | e) | e)
  · exact .inl (.inl (.inl e))
  · exact .inl (.inl (.inr (.inl e)))
  · exact .inl (.inl (.inr (.inr (.inl e))))
  · exact .inl (.inl (.inr (.inr (.inr (.inl e)))))
  · exact .inl (.inl (.inr (.inr (.inr (.inr (.inl e))))))
  · exact (hS g e).imp (fun e => .inl (.inr (.inr (.inr (.inr (.inr (.inl e))))))) id
  · exact .inl (.inl (.inr (.inr (.inr (.inr (.inr (.inr e)))))))
  · exact .inl (.inr (hL g e))
/-- A row that is off stays so while the heap turns. -/
theorem SS.offHeap {S' : Nat → Prop} {r : RowT} (h : SS w b n S vl vp vs k M R st lr ph) (hk : Kept S w w') (hS : ∀ g, S' g → S g ∨ w.heap.size ≤ g) (hr : Off w (Zs w b S vl vp vs) r) : Off w' (Zs w' b S' vl vp vs) r := by
  obtain ⟨⟨cT, hbt⟩, _⟩ := h.t.typ
  exact hr.kept hk (fun g hg => .inl (.inr (.inr (.inr (.inr (.inr (.inl hg))))))) (zs_heap hS fun g => LB.kept hk hbt.lt (h.h.off hbt (by decide) (by decide)))
/-- The heap turns. -/
theorem SS.heap {S' : Nat → Prop} (h : SS w b n S vl vp vs k M R st lr ph) (hk : Kept S w w') (hh : HH w' b.H0 b.bh n S' lr') (hS : ∀ g, S' g → S g ∨ w.heap.size ≤ g) : SS w' b n S' vl vp vs k M R st lr' ph := by
  obtain ⟨⟨cT, hbt⟩, ⟨cA, hba⟩⟩ := h.t.typ
  obtain ⟨x1, hc1⟩ := h.c1
  obtain ⟨A, ss, cs, hc2, ho2, hcs⟩ := h.c2
  have own : ∀ {base t m : Nat} {v : Value} {xs : List Value}, w.ownsRow base t 1 v m xs → t ≠ 68 → t ≠ 3 → w'.ownsRow base t 1 v m xs := fun ho h1 h2 =>
    own_kept ho hk fun g hg => by
      obtain ⟨c, hb⟩ := own_heap ho hg
      exact h.h.off hb h1 h2
  refine ⟨h.blk.kept hk (h.h.off h.blk (by decide) (by decide)), h.t.kept hk (h.h.off hbt (by decide) (by decide)) h.nba (fun g c hp => h.h.off hp (by decide) (by decide)), hh, own h.l (by decide) (by decide), own h.s (by decide) (by decide), own h.p (by decide) (by decide), h.pval, fun r hr => h.offHeap hk hS (h.rows r hr), ⟨x1, hc1.kept hk h.nb1⟩,
    ⟨A, ss, cs, hc2.kept hk (h.h.off hc2 (by decide) (by decide)), h.offHeap hk hS ho2, hcs⟩, fun e => ?_, fun e => ?_, h.ab1, h.ls, h.l2, h.s2, h.hbs, h.hb1, h.hb2, h.nn, fun q hq => (h.c3 q hq).kept hk (h.h.off (h.c3 q hq) (by decide) (by decide)), h.hvb⟩
  · rcases hS _ e with e | e
    · exact h.nba e
    · have := hba.lt; omega
  · rcases hS _ e with e | e
    · exact h.nb1 e
    · have := hc1.lt; omega
theorem SS.offBelow {r : RowT} (h : SS w b n S vl vp vs k M R st lr ph) (hb : Below w.heap.size w w') (hr : Off w (Zs w b S vl vp vs) r) : Off w' (Zs w' b S vl vp vs) r := by
  obtain ⟨⟨cT, hbt⟩, _⟩ := h.t.typ
  have hk : Kept (fun _ => False) w w' := Kept.of_below hb
  exact hr.kept hk (fun _ e => e.elim) (fun g e => .inl (e.imp id (LB.kept hk hbt.lt (fun e => e))))
/-- Nothing old turns. -/
theorem SS.below (h : SS w b n S vl vp vs k M R st lr ph) (hb : Below w.heap.size w w') : SS w' b n S vl vp vs k M R st lr ph := by
  have hk : Kept (fun _ => False) w w' := Kept.of_below hb
  obtain ⟨x1, hc1⟩ := h.c1
  obtain ⟨A, ss, cs, hc2, ho2, hcs⟩ := h.c2
  exact ⟨h.blk.kept hk (fun e => e), h.t.below hb, h.h.kept hk (fun _ e => e.elim), own_kept h.l hk (fun _ _ e => e), own_kept h.s hk (fun _ _ e => e), own_kept h.p hk (fun _ _ e => e), h.pval, fun r hr => h.offBelow hb (h.rows r hr), ⟨x1, hc1.kept hk (fun e => e)⟩,
    ⟨A, ss, cs, hc2.kept hk (fun e => e), h.offBelow hb ho2, hcs⟩, h.nba, h.nb1, h.ab1, h.ls, h.l2, h.s2, h.hbs, h.hb1, h.hb2, h.nn, fun q hq => (h.c3 q hq).kept hk (fun e => e), h.hvb⟩
theorem SS.vb_none (h : SS w b n S vl vp vs k M R st lr ph) (hR : R ≠ []) : b.vb = none := by
  cases hv : b.vb with
  | none => rfl
  | some v => exact absurd (h.hvb v hv).1 hR
theorem SS.drewN (h : SS w b n S vl vp vs k M R st lr ph) (q : Nat) : SS (w.drewN q) b n S vl vp vs k M R st lr ph := h.below (below_drewN (Below.refl _ _) q)
end
end Go.Proofs.YtmbekchnfbmhbaaGreat

/- The search, while its own cells turn. -/
namespace Go.Proofs.YtmbekchnfbmhbaaGreat
open Go.RowKit Go.Lib

def Mine (b : Bl) (vl vp vs : Value) (g : Nat) : Prop := g = b.bs ∨ g = b.b1 ∨ g = b.b2 ∨ vl.ownBlock = some g ∨ vp.ownBlock = some g ∨ vs.ownBlock = some g
section
variable {w w' : World} {b : Bl} {n : Nat} {S C : Nat → Prop} {vl vp vs : Value} {k : Int} {M M' : Tr} {R st : List RowT} {lr lr' : List Nat} {ph : List Int}
theorem SS.mine (h : SS w b n S vl vp vs k M R st lr ph) (hk : Kept C w w') (hC : ∀ g, C g → Mine b vl vp vs g) : TT w' b.H0 b.bt b.ba M ∧ HH w' b.H0 b.bh n S lr ∧ (∀ {vl' vp' vs' : Value} {r : RowT}, (∀ g, Zo b S vl' vp' vs' g → Zo b S vl vp vs g ∨ w.heap.size ≤ g) → Off w (Zs w b S vl vp vs) r → Off w' (Zs w' b S vl' vp' vs') r) ∧ ∀ q, b.b3 = some q → Blk w' q.1 29 q.2 := by
  obtain ⟨⟨cT, hbt⟩, ⟨cA, hba⟩⟩ := h.t.typ
  obtain ⟨x1, hc1⟩ := h.c1
  obtain ⟨A, ss, cs, hc2, ho2⟩ := h.c2
  have own : ∀ {base t m : Nat} {v : Value} {xs : List Value} {g t' : Nat} {c : Array Value}, w.ownsRow base t 1 v m xs → Blk w g t' c → t ≠ t' → v.ownBlock ≠ some g := fun ho hb hne => own_blk_ne ho hb hne
  have typ : ∀ {g t : Nat} {c : Array Value}, Blk w g t c → C g → t = 52 ∨ g = b.b1 ∨ t = 23 ∨ t = 26 := by
    intro g t c hb hc
    rcases hC g hc with e | e | e | e | e | e
    · exact .inl (Classical.byContradiction fun hne => hb.ne_ h.blk hne e)
    · exact .inr (.inl e)
    · exact .inr (.inr (.inl (Classical.byContradiction fun hne => hb.ne_ hc2 hne e)))
    · exact .inr (.inr (.inl (Classical.byContradiction fun hne => own h.l hb (fun e => hne e.symm) e)))
    · exact .inr (.inr (.inr (Classical.byContradiction fun hne => own h.p hb (fun e => hne e.symm) e)))
    · exact .inr (.inr (.inl (Classical.byContradiction fun hne => own h.s hb (fun e => hne e.symm) e)))
  refine ⟨h.t.kept hk (fun hc => ?_) (fun hc => ?_) (fun g c hp hc => ?_), h.h.kept hk (fun g hc hs => ?_), fun {vl' vp' vs' r} hZ hr => hr.kept hk (fun g hc => .inl ?_) (fun g hz => hz.elim (fun e => (hZ g e).imp .inl id) (fun e => .inl (.inr (LB.kept hk hbt.lt ?_ e)))), fun q hq => (h.c3 q hq).kept hk (fun hc => ?_)⟩
  · rcases typ hbt hc with e | e | e | e
    · revert e; decide
    · exact hc1.ne_ hbt (by decide) e.symm
    · revert e; decide
    · revert e; decide
  · rcases typ hba hc with e | e | e | e
    · revert e; decide
    · exact h.ab1 e
    · revert e; decide
    · revert e; decide
  · rcases typ hp hc with e | e | e | e
    · revert e; decide
    · exact hc1.ne_ hp (by decide) e.symm
    · revert e; decide
    · revert e; decide
  · obtain ⟨t, c, hb, ht⟩ := h.h.typ hs
    rcases typ hb hc with e | e | e | e
    · subst e; revert ht; decide
    · exact h.nb1 (e ▸ hs)
    · subst e; revert ht; decide
    · subst e; revert ht; decide
  · rcases hC g hc with e | e | e | e | e | e
    · exact .inl e
    · exact .inr (.inr (.inr (.inl e)))
    · exact .inr (.inr (.inr (.inr (.inl e))))
    · exact .inr (.inr (.inr (.inr (.inr (.inr (.inl e))))))
    · exact .inr (.inr (.inr (.inr (.inr (.inr (.inr (.inl e)))))))
    · exact .inr (.inr (.inr (.inr (.inr (.inr (.inr (.inr e)))))))
  · intro hc
    rcases typ hbt hc with e | e | e | e
    · revert e; decide
    · exact hc1.ne_ hbt (by decide) e.symm
    · revert e; decide
    · revert e; decide
  · rcases typ (h.c3 q hq) hc with e | e | e | e
    · revert e; decide
    · exact hc1.ne_ (h.c3 q hq) (by decide) e.symm
    · revert e; decide
    · revert e; decide

theorem SS.hp (h : SS w b n S vl vp vs k M R st lr ph) : ph.length = n := by
  have := h.p.1
  simpa using this
/-- A phase is noted. -/
theorem SS.phase (h : SS w b n S vl vp vs k M R st lr ph) {gp cap : Nat} (hv : vp = .slice (some ⟨gp, 0, none⟩) n cap) (i : Nat) {x : Int} (hx : 0 ≤ x ∧ x ≤ 2) : SS (w.setCell ⟨gp, i, none⟩ (.int .i8 x)) b n S vl vp vs k M R st lr (ph.set i x) := by
  have hob : vp.ownBlock = some gp := by rw [hv]; rfl
  have hk := Kept.set1 w gp i (.int .i8 x)
  obtain ⟨h1, h2, h3, h9⟩ := h.mine hk (fun g e => .inr (.inr (.inr (.inr (.inl (by rw [e]; exact hob))))))
  obtain ⟨cp, hbp⟩ := own_heap h.p hob
  have hp2 : (w.setCell ⟨gp, i, none⟩ (.int .i8 x)).ownsRow b.H0 26 1 vp n ((ph.set i x).map (Value.int .i8)) := by
    have := h.p
    rw [hv] at this ⊢
    rw [List.map_set]
    exact (this.stored i (.int .i8 x)).1
  obtain ⟨x1, hc1⟩ := h.c1
  obtain ⟨A, ss, cs, hc2, ho2, hcs⟩ := h.c2
  have hsub : ∀ y ∈ ph.set i x, 0 ≤ y ∧ y ≤ 2 := fun y hy => by
    rcases List.mem_or_eq_of_mem_set hy with hy | hy
    · exact h.pval y hy
    · rw [hy]; exact hx
  exact ⟨h.blk.kept hk (fun e => h.blk.ne_ hbp (by decide) e), h1, h2, own_kept h.l hk (fun g hg e => own_blk_ne h.l hbp (by decide) (e ▸ hg)), own_kept h.s hk (fun g hg e => own_blk_ne h.s hbp (by decide) (e ▸ hg)), hp2, hsub, fun r hr => h3 (fun _ => .inl) (h.rows r hr), ⟨x1, hc1.kept hk (fun e => hc1.ne_ hbp (by decide) e)⟩,
    ⟨A, ss, cs, hc2.kept hk (fun e => hc2.ne_ hbp (by decide) e), h3 (fun _ => .inl) ho2, hcs⟩, h.nba, h.nb1, h.ab1, h.ls, h.l2, h.s2, h.hbs, h.hb1, h.hb2, h.nn, h9, h.hvb⟩
theorem SS.offPhase {r : RowT} (h : SS w b n S vl vp vs k M R st lr ph) {gp cap : Nat} (hv : vp = .slice (some ⟨gp, 0, none⟩) n cap) (i : Nat) (u : Value) (hr : Off w (Zs w b S vl vp vs) r) : Off (w.setCell ⟨gp, i, none⟩ u) (Zs (w.setCell ⟨gp, i, none⟩ u) b S vl vp vs) r := by
  have hob : vp.ownBlock = some gp := by rw [hv]; rfl
  obtain ⟨_, _, h3, _⟩ := h.mine (Kept.set1 w gp i u) (fun g e => .inr (.inr (.inr (.inr (.inl (by rw [e]; exact hob))))))
  exact h3 (fun _ => .inl) hr
/-- A conflict more. -/
theorem SS.conf (h : SS w b n S vl vp vs k M R st lr ph) (k' : Int) : SS (w.setCell ⟨b.bs, 1, none⟩ (.int .i64 k')) b n S vl vp vs k' M R st lr ph := by
  have hk := Kept.set1 w b.bs 1 (.int .i64 k')
  obtain ⟨h1, h2, h3, h9⟩ := h.mine hk (fun g e => .inl e)
  obtain ⟨x1, hc1⟩ := h.c1
  obtain ⟨A, ss, cs, hc2, ho2, hcs⟩ := h.c2
  refine ⟨?_, h1, h2, own_kept h.l hk (fun g hg e => own_blk_ne h.l h.blk (by decide) (e ▸ hg)), own_kept h.s hk (fun g hg e => own_blk_ne h.s h.blk (by decide) (e ▸ hg)), own_kept h.p hk (fun g hg e => own_blk_ne h.p h.blk (by decide) (e ▸ hg)), h.pval, fun r hr => h3 (fun _ => .inl) (h.rows r hr), ⟨x1, hc1.kept hk (fun e => hc1.ne_ h.blk (by decide) e)⟩,
    ⟨A, ss, cs, hc2.kept hk (fun e => hc2.ne_ h.blk (by decide) e), h3 (fun _ => .inl) ho2, hcs⟩, h.nba, h.nb1, h.ab1, h.ls, h.l2, h.s2, h.hbs, h.hb1, h.hb2, h.nn, h9, h.hvb⟩
  have := h.blk.set_ 1 (.int .i64 k')
  simpa using this
/-- The seeds turn. -/
theorem SS.seeds (h : SS w b n S vl vp vs k M R st lr ph) (hk : Kept (fun g => g = b.b1 ∨ g = b.b2) w w') (hc1' : ∃ x, Blk w' b.b1 3 #[.int .i64 x]) {A : Option Addr} {ss : List Int} {cs : Nat} (hb2' : Blk w' b.b2 23 #[.slice A ss.length cs]) (hcs : ss.length ≤ cs) (ho : Off w (Zs w b S vl vp vs) (A, cs, ss)) : SS w' b n S vl vp vs k M R st lr ph := by
  obtain ⟨h1, h2, h3, h9⟩ := h.mine hk (fun g e => e.elim (fun e => .inr (.inl e)) (fun e => .inr (.inr (.inl e))))
  obtain ⟨x1, hc1⟩ := h.c1
  obtain ⟨A0, ss0, cs0, hc2, _⟩ := h.c2
  refine ⟨h.blk.kept hk ?_, h1, h2, own_kept h.l hk ?_, own_kept h.s hk ?_, own_kept h.p hk ?_, h.pval, fun r hr => h3 (fun _ => .inl) (h.rows r hr), hc1', ⟨A, ss, cs, hb2', h3 (fun _ => .inl) ho, hcs⟩, h.nba, h.nb1, h.ab1, h.ls, h.l2, h.s2, h.hbs, h.hb1, h.hb2, h.nn, h9, h.hvb⟩
  · rintro (e | e)
    · exact h.blk.ne_ hc1 (by decide) e
    · exact h.blk.ne_ hc2 (by decide) e
  · rintro g hg (e | e)
    · exact own_blk_ne h.l hc1 (by decide) (e ▸ hg)
    · exact h.l2 (e ▸ hg)
  · rintro g hg (e | e)
    · exact own_blk_ne h.s hc1 (by decide) (e ▸ hg)
    · exact h.s2 (e ▸ hg)
  · rintro g hg (e | e)
    · exact own_blk_ne h.p hc1 (by decide) (e ▸ hg)
    · exact own_blk_ne h.p hc2 (by decide) (e ▸ hg)

/-- A step more. -/
theorem SS.step (h : SS w b n S vl vp vs k M R st lr ph) {W w3 : World} {g cap : Nat} {c : RowT} (hc : Off w (Zs w b S vl vp vs) c) (kW : Kept (fun _ => False) w W)
    (ho3 : w3.ownsRow b.H0 23 1 (.slice (some ⟨g, 0, none⟩) (st.length + 1) cap) (st.length + 1) (st.map encR ++ [encR c])) (hg : W.grownBy w3 vs.ownBlock) (hat : vs.ownBlock = some g ∨ g = W.heap.size) :
    (∃ cs, Blk w3 b.bs 52 cs ∧ cs[6]? = some vs) ∧ SS (w3.setCell ⟨b.bs, 6, none⟩ (.slice (some ⟨g, 0, none⟩) (st.length + 1) cap)) b n S vl vp (.slice (some ⟨g, 0, none⟩) (st.length + 1) cap) k M R (st ++ [c]) lr ph ∧ Below b.H0 w (w3.setCell ⟨b.bs, 6, none⟩ (.slice (some ⟨g, 0, none⟩) (st.length + 1) cap)) := by
  have k3 : Kept (fun i => vs.ownBlock = some i) w w3 := ((Kept.refl _ w).then_ kW (fun _ _ e => e.elim)).grown hg (fun i e => .inl e)
  have hbs3 : Blk w3 b.bs 52 _ := h.blk.kept k3 (fun e => own_blk_ne h.s h.blk (by decide) e)
  have hk : Kept (fun i => vs.ownBlock = some i ∨ i = b.bs) w (w3.setCell ⟨b.bs, 6, none⟩ (.slice (some ⟨g, 0, none⟩) (st.length + 1) cap)) := (k3.mono (fun _ _ e => .inl e)).setCell (p := ⟨b.bs, 6, none⟩) (.inl (.inr rfl)) _
  have hwW : w.heap.size ≤ W.heap.size := kW.size
  obtain ⟨h1, h2, h3, h9⟩ := h.mine hk (fun i e => e.elim (fun e => .inr (.inr (.inr (.inr (.inr e))))) .inl)
  have hZ : ∀ i, Zo b S vl vp (.slice (some ⟨g, 0, none⟩) (st.length + 1) cap) i → Zo b S vl vp vs i ∨ w.heap.size ≤ i := by
    rintro i (e | e | e | e | e | e | e | e | e)
    · exact .inl (.inl e)
    · exact .inl (.inr (.inl e))
    · exact .inl (.inr (.inr (.inl e)))
    · exact .inl (.inr (.inr (.inr (.inl e))))
    · exact .inl (.inr (.inr (.inr (.inr (.inl e)))))
    · exact .inl (.inr (.inr (.inr (.inr (.inr (.inl e))))))
    · exact .inl (.inr (.inr (.inr (.inr (.inr (.inr (.inl e)))))))
    · exact .inl (.inr (.inr (.inr (.inr (.inr (.inr (.inr (.inl e))))))))
    · have e : g = i := Option.some.inj e
      rcases hat with h | h
      · exact .inl (.inr (.inr (.inr (.inr (.inr (.inr (.inr (.inr (by rw [h, e])))))))))
      · right; omega
  obtain ⟨x1, hc1⟩ := h.c1
  obtain ⟨A, ss, cs, hc2, ho2, hcs⟩ := h.c2
  refine ⟨⟨_, hbs3, rfl⟩, ⟨?_, h1, h2, own_kept h.l hk ?_, ?_, own_kept h.p hk ?_, h.pval, fun r hr => h3 hZ ?_, ⟨x1, hc1.kept hk ?_⟩, ⟨A, ss, cs, hc2.kept hk ?_, h3 hZ ho2, hcs⟩, h.nba, h.nb1, h.ab1, ?_, h.l2, ?_, h.hbs, h.hb1, h.hb2, h.nn, h9, h.hvb⟩, hk.below (Nat.le_of_lt h.lt) fun i e => e.elim (fun e => (h.s.lt i e).1) (fun e => e ▸ h.hbs)⟩
  · have := hbs3.set_ 6 (.slice (some ⟨g, 0, none⟩) (st.length + 1) cap)
    simpa using this
  · rintro i hi (e | e)
    · exact h.ls i hi e
    · exact own_blk_ne h.l h.blk (by decide) (e ▸ hi)
  · have e1 : (st ++ [c]).map encR = st.map encR ++ [encR c] := by rw [List.map_append]; rfl
    rw [e1, List.length_append, List.length_singleton]
    exact own_kept ho3 (Kept.set1 w3 b.bs 6 _) (fun i hi e => own_blk_ne ho3 hbs3 (by decide) (e ▸ hi))
  · rintro i hi (e | e)
    · exact own_own_ne h.p h.s (by decide) hi e
    · exact own_blk_ne h.p h.blk (by decide) (e ▸ hi)
  · rw [← List.append_assoc] at hr
    rcases List.mem_append.1 hr with hr | hr
    · exact h.rows r hr
    · rw [List.mem_singleton.1 hr]; exact hc
  · rintro (e | e)
    · exact own_blk_ne h.s hc1 (by decide) e
    · exact hc1.ne_ h.blk (by decide) e
  · rintro (e | e)
    · exact h.s2 e
    · exact hc2.ne_ h.blk (by decide) e
  · intro i hi e
    have e : g = i := Option.some.inj e
    rcases hat with h4 | h4
    · exact h.ls i hi (by rw [h4, e])
    · have := (h.l.lt i hi).2; omega
  · intro e
    have e : g = b.b2 := Option.some.inj e
    rcases hat with h4 | h4
    · exact h.s2 (by rw [h4, e])
    · have := hc2.lt; omega
/-- A clause more. -/
theorem SS.clause (h : SS w b n S vl vp vs k M R st lr ph) (hR : R ≠ []) {W w3 : World} {g cap : Nat} {c : RowT} (hc : Off w (Zs w b S vl vp vs) c) (kW : Kept (fun _ => False) w W)
    (ho3 : w3.ownsRow b.H0 23 1 (.slice (some ⟨g, 0, none⟩) (R.length + 1) cap) (R.length + 1) (R.map encR ++ [encR c])) (hg : W.grownBy w3 vl.ownBlock) (hat : vl.ownBlock = some g ∨ g = W.heap.size) :
    (∃ cs, Blk w3 b.bs 52 cs ∧ cs[2]? = some vl) ∧ SS (w3.setCell ⟨b.bs, 2, none⟩ (.slice (some ⟨g, 0, none⟩) (R.length + 1) cap)) b n S (.slice (some ⟨g, 0, none⟩) (R.length + 1) cap) vp vs k M (R ++ [c]) st lr ph ∧ Below b.H0 w (w3.setCell ⟨b.bs, 2, none⟩ (.slice (some ⟨g, 0, none⟩) (R.length + 1) cap)) := by
  have k3 : Kept (fun i => vl.ownBlock = some i) w w3 := ((Kept.refl _ w).then_ kW (fun _ _ e => e.elim)).grown hg (fun i e => .inl e)
  have hvn := h.vb_none hR
  have hbs3 : Blk w3 b.bs 52 _ := h.blk.kept k3 (fun e => own_blk_ne h.l h.blk (by decide) e)
  rw [hvn] at hbs3
  have hk : Kept (fun i => vl.ownBlock = some i ∨ i = b.bs) w (w3.setCell ⟨b.bs, 2, none⟩ (.slice (some ⟨g, 0, none⟩) (R.length + 1) cap)) := (k3.mono (fun _ _ e => .inl e)).setCell (p := ⟨b.bs, 2, none⟩) (.inl (.inr rfl)) _
  have hwW : w.heap.size ≤ W.heap.size := kW.size
  obtain ⟨h1, h2, h3, h9⟩ := h.mine hk (fun i e => e.elim (fun e => .inr (.inr (.inr (.inl e)))) .inl)
  have hZ : ∀ i, Zo b S (.slice (some ⟨g, 0, none⟩) (R.length + 1) cap) vp vs i → Zo b S vl vp vs i ∨ w.heap.size ≤ i := by
    rintro i (e | e | e | e | e | e | e | e | e)
    · exact .inl (.inl e)
    · exact .inl (.inr (.inl e))
    · exact .inl (.inr (.inr (.inl e)))
    · exact .inl (.inr (.inr (.inr (.inl e))))
    · exact .inl (.inr (.inr (.inr (.inr (.inl e)))))
    · exact .inl (.inr (.inr (.inr (.inr (.inr (.inl e))))))
    · have e : g = i := Option.some.inj e
      rcases hat with h | h
      · exact .inl (.inr (.inr (.inr (.inr (.inr (.inr (.inl (by rw [h, e]))))))))
      · right; omega
    · exact .inl (.inr (.inr (.inr (.inr (.inr (.inr (.inr (.inl e))))))))
    · exact .inl (.inr (.inr (.inr (.inr (.inr (.inr (.inr (.inr e))))))))
  obtain ⟨x1, hc1⟩ := h.c1
  obtain ⟨A, ss, cs, hc2, ho2, hcs⟩ := h.c2
  refine ⟨⟨_, hbs3, rfl⟩, ⟨?_, h1, h2, ?_, own_kept h.s hk ?_, own_kept h.p hk ?_, h.pval, fun r hr => h3 hZ ?_, ⟨x1, hc1.kept hk ?_⟩, ⟨A, ss, cs, hc2.kept hk ?_, h3 hZ ho2, hcs⟩, h.nba, h.nb1, h.ab1, ?_, ?_, h.s2, h.hbs, h.hb1, h.hb2, h.nn, h9, fun v hv => by rw [h.vb_none hR] at hv; cases hv⟩, hk.below (Nat.le_of_lt h.lt) fun i e => e.elim (fun e => (h.l.lt i e).1) (fun e => e ▸ h.hbs)⟩
  · have := hbs3.set_ 2 (.slice (some ⟨g, 0, none⟩) (R.length + 1) cap)
    rw [hvn]
    simpa using this
  · have e1 : (R ++ [c]).map encR = R.map encR ++ [encR c] := by rw [List.map_append]; rfl
    rw [e1, List.length_append, List.length_singleton]
    exact own_kept ho3 (Kept.set1 w3 b.bs 2 _) (fun i hi e => own_blk_ne ho3 hbs3 (by decide) (e ▸ hi))
  · rintro i hi (e | e)
    · exact h.ls i e hi
    · exact own_blk_ne h.s h.blk (by decide) (e ▸ hi)
  · rintro i hi (e | e)
    · exact own_own_ne h.p h.l (by decide) hi e
    · exact own_blk_ne h.p h.blk (by decide) (e ▸ hi)
  · rcases List.mem_append.1 hr with hr | hr
    · rcases List.mem_append.1 hr with hr | hr
      · exact h.rows r (List.mem_append_left _ hr)
      · rw [List.mem_singleton.1 hr]; exact hc
    · exact h.rows r (List.mem_append_right _ hr)
  · rintro (e | e)
    · exact own_blk_ne h.l hc1 (by decide) e
    · exact hc1.ne_ h.blk (by decide) e
  · rintro (e | e)
    · exact h.l2 e
    · exact hc2.ne_ h.blk (by decide) e
  · intro i hi e
    have hi : g = i := Option.some.inj hi
    rcases hat with h4 | h4
    · exact h.ls i (by rw [h4, hi]) e
    · have := (h.s.lt i e).2; omega
  · intro e
    have e : g = b.b2 := Option.some.inj e
    rcases hat with h4 | h4
    · exact h.l2 (by rw [h4, e])
    · have := hc2.lt; omega
end
end Go.Proofs.YtmbekchnfbmhbaaGreat

/- States of clauses under the trail. -/
namespace Go.Proofs.YtmbekchnfbmhbaaGreat
open Go.RowKit Go.Lib

theorem valOf_cases (L : List Pt) (x : Int) : valOf L x = 0 ∨ valOf L x = 1 ∨ valOf L x = 2 := by
  unfold valOf
  split
  · unfold valAt
    split
    · exact .inr (.inl rfl)
    · exact .inr (.inr rfl)
  · exact .inl rfl
theorem valOf_zero {L : List Pt} {x : Int} (h : valOf L x = 0) : find L (x / 2) = none := by
  unfold valOf at h
  split at h
  · unfold valAt at h
    split at h <;> omega
  · assumption
theorem valOf_one {M : Tr} {x : Int} (h : valOf M.L x = 1) : x ∈ litsM M := by
  unfold valOf at h
  split at h
  · rename_i p hp
    unfold find at hp
    have h1 := List.mem_of_find?_eq_some hp
    unfold valAt at h
    split at h
    · rename_i e
      exact List.mem_map.2 ⟨p, h1, e⟩
    · omega
  · omega
theorem lit_val {M : Tr} (hM : M.Ok) {x : Int} (h : x ∈ litsM M) : valOf M.L x = 1 := by
  obtain ⟨k, hk, e⟩ := List.mem_iff_getElem.1 h
  have hk' : k < M.L.length := by rw [litsM_len] at hk; exact hk
  rw [lits_at hk] at e
  unfold valOf
  rw [find_at hM hk' (by rw [e])]
  show valAt M.L[k] x = 1
  unfold valAt
  rw [if_pos e]
theorem valM_of {M : Tr} {n : Nat} {x : Int} (h0 : 0 ≤ x) (hn : x / 2 < n) : valM (valsOf n M.L) x = valOf M.L x := by
  have hx : (x / 2).toNat < n := by omega
  have e : (((x / 2).toNat : Nat) : Int) = x / 2 := by omega
  unfold valM valsOf
  rw [if_neg (by omega), List.getElem?_map, List.getElem?_range hx]
  simp only [Option.map_some]
  rw [e]
  unfold valOf
  rw [show 2 * (x / 2) / 2 = x / 2 by omega]
  split
  · rename_i p hp
    unfold find at hp
    have h2 := List.find?_some hp
    unfold isAt at h2
    have h3 : p.lit / 2 = x / 2 := by simpa using h2
    unfold valAt
    by_cases hp2 : x % 2 = 0
    · have e2 : 2 * (x / 2) = x := by omega
      rw [e2]
      by_cases e3 : p.lit = x <;> simp [e3, hp2]
    · by_cases e3 : p.lit = x
      · have e4 : ¬ x = 2 * (x / 2) := by omega
        simp [e3, e4, hp2]
      · have e4 : p.lit = 2 * (x / 2) := by omega
        have e5 : ¬ 2 * (x / 2) = x := by omega
        simp [e4, e5, hp2]
  · simp
theorem state_val {M : Tr} {n : Nat} {c : List Int} (hc : ∀ x ∈ c, 0 ≤ x ∧ x / 2 < n) : stM (valsOf n M.L) c 0 (-1) = stF (valOf M.L) c 0 (-1) :=
  st_rep c 0 (-1) fun x hx => valM_of (hc x hx).1 (hc x hx).2
theorem state_false {M : Tr} {n : Nat} {c : List Int} (hc : ∀ x ∈ c, 0 ≤ x ∧ x / 2 < n) (h : (stM (valsOf n M.L) c 0 (-1)).1 = 1) : ∀ x ∈ c, valOf M.L x = 2 := by
  rw [state_val hc, st_one] at h
  intro x hx
  have := h x hx
  rcases valOf_cases M.L x with e | e | e
  · exact absurd e this.2
  · exact absurd e this.1
  · exact e
theorem state_unit {M : Tr} {n : Nat} {c : List Int} (hc : ∀ x ∈ c, 0 ≤ x ∧ x / 2 < n) (h : (stM (valsOf n M.L) c 0 (-1)).1 = 2) : ∃ lit, (stM (valsOf n M.L) c 0 (-1)).2 = lit ∧ lit ∈ c ∧ find M.L (lit / 2) = none ∧ ∀ y ∈ c, y ≠ lit → negM y ∈ litsM M := by
  rw [state_val hc] at h ⊢
  obtain ⟨x, h1, h2, h3, h4⟩ := st_two h
  refine ⟨x, h1, h2, valOf_zero h3, fun y hy hne => ?_⟩
  have := (h4 y hy).resolve_left hne
  rcases valOf_cases M.L y with e | e | e
  · exact absurd e this.2
  · exact absurd e this.1
  · exact valOf_two e (hc y hy).1
theorem state_shut {M : Tr} (hM : M.Ok) {n : Nat} {rows : List (List Int)} (hc : CL n rows) (h : ∀ cl ∈ rows, (stM (valsOf n M.L) cl 0 (-1)).1 ≠ 1 ∧ (stM (valsOf n M.L) cl 0 (-1)).1 ≠ 2) : Shut21 rows (fun x => x ∈ litsM M) := by
  have two : ∀ y, negM y ∈ litsM M → valOf M.L y ≠ 1 ∧ valOf M.L y ≠ 0 := fun y hy => by
    rw [neg_val hM hy]; exact ⟨by decide, by decide⟩
  refine ⟨fun cl h1 _ h3 => (h cl h1).1 ?_, fun cl h1 h2 x hx ho => ?_⟩
  · rw [state_val (hc cl h1).2, st_one]
    exact fun x hx => two x (h3 x hx)
  · rcases valOf_cases M.L x with e | e | e
    · refine absurd ?_ (h cl h1).2
      rw [state_val (hc cl h1).2, st_two_of (ord_nodup (isC_ord h2)) hx e fun y hy => ?_]
      by_cases e2 : y = x
      · exact .inl e2
      · exact .inr (two y (ho y hy e2))
    · exact valOf_one e
    · refine absurd ?_ (h cl h1).1
      rw [state_val (hc cl h1).2, st_one]
      intro y hy
      by_cases e2 : y = x
      · rw [e2, e]; exact ⟨by decide, by decide⟩
      · exact two y (ho y hy e2)
/-- The level of a clause that is false. -/
theorem false_level {M : Tr} {c : List Int} (hc : isC c = true) (h : ∀ x ∈ c, valOf M.L x = 2) : ∃ lv, levelM M c = some lv ∧ 0 ≤ lv := by
  have : ∀ (c : List Int) (m : Int), 0 ≤ m → (∀ x ∈ c, valOf M.L x = 2) → ∃ lv, levelGo M c m = some lv ∧ 0 ≤ lv := by
    intro c
    induction c with
    | nil => intro m hm _; exact ⟨m, rfl, hm⟩
    | cons x r ih =>
      intro m hm hv
      rw [levelGo, if_pos (hv x (by simp))]
      exact ih _ (by omega) fun y hy => hv y (by simp [hy])
  unfold levelM
  rw [if_pos hc]
  exact this c 0 (Int.le_refl _) h

/-- What the search holds to. -/
structure PI (n : Nat) (M : Tr) (R : List RowT) (lr : List Nat) : Prop where
  inv : Inv21 n M (rowsOf R)
  cl : CL n (rowsOf R)
  heap : ∀ v : Nat, v < n → find M.L v = none → v ∈ lr
  small : R.length ≤ 20000
  nn : n ≤ 400

theorem rows_mem {R : List RowT} {i : Nat} (h : i < R.length) : R[i].2.2 ∈ rowsOf R := List.mem_map.2 ⟨R[i], List.getElem_mem h, rfl⟩
theorem rows_at {R : List RowT} {i : Nat} (h : i < R.length) : (rowsOf R)[i]? = some R[i].2.2 := by
  unfold rowsOf
  rw [List.getElem?_map, List.getElem?_eq_getElem h]
  rfl
/-- A unit clause's literal is put. -/
theorem PI.unit {n : Nat} {M : Tr} {R : List RowT} {lr : List Nat} (h : PI n M R lr) {i : Nat} (hi : i < R.length) (hs : (stM (valsOf n M.L) R[i].2.2 0 (-1)).1 = 2) :
    putE M (stM (valsOf n M.L) R[i].2.2 0 (-1)).2 i = 0 ∧ PI n (putM M (stM (valsOf n M.L) R[i].2.2 0 (-1)).2 i) R lr ∧ (putM M (stM (valsOf n M.L) R[i].2.2 0 (-1)).2 i).L.length = M.L.length + 1 ∧ (putM M (stM (valsOf n M.L) R[i].2.2 0 (-1)).2 i).lv = M.lv := by
  have hcl := h.cl _ (rows_mem hi)
  obtain ⟨lit, e, hin, hf, ho⟩ := state_unit hcl.2 hs
  rw [e]
  have hr := hcl.2 lit hin
  have hb : putBad M lit i = false := by
    unfold putBad
    rw [decide_eq_false (by omega), decide_eq_false (by have := h.inv.mn; omega), decide_eq_false (by omega)]
    rfl
  have hp : putM M lit i = ⟨M.n, M.L ++ [⟨lit, M.lv, (i : Int)⟩], M.lv⟩ := by
    unfold putM
    rw [if_neg (by rw [hb]; simp), hf]
  have he : putE M lit i = 0 := by
    unfold putE
    rw [if_neg (by rw [hb]; simp), hf]
  rw [hp]
  refine ⟨he, ⟨h.inv.unit (rows_at hi) hcl.1 hin hr.1 hr.2 hf ho, h.cl, fun v hv hn => h.heap v hv ?_, h.small, h.nn⟩, by simp, rfl⟩
  rw [find_append] at hn
  split at hn
  · cases hn
  · assumption
end Go.Proofs.YtmbekchnfbmhbaaGreat

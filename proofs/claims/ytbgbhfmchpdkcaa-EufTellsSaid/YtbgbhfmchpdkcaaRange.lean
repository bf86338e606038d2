/- A range over a function, at the fence that asks nothing: the statement, met from the iterator's contract; a round, met from the body's walk. -/
import Derived.Test.YtbgbhfmchpdkcaaPaths
import Derived.TacticsIn
import Derived.BigFrameIn
import Derived.RegionIn
import Derived.LoopIn
import Derived.OwnWalkIn
import Derived.RangeFuncRecord
import Derived.RangeFuncLeaves
namespace Go.Proofs.Ytbgbhfmchpdkcaa
open Go.RowKit

/-- The record of a range over a function, as the statement lays it. -/
def loopRec (fn : FuncId) (tmps : Array Value) (ps : Array Tmp) (assign body : Code) (D : Nat) (st : LoopState) : Loop :=
  { state := st, pending := none, fn, tmps, params := ps, assign, body, defers := D }

/-- The loop's two blocks: the record at l, the block for the rounds' deferred calls at D. -/
structure LoopAt (W : World) (l D : Nat) (r : Loop) : Prop where
  rec_ : W.heap[l]? = some (.loop r)
  def_ : W.heap[D]? = some (.deferred (some []))
  ne_ : D ≠ l

theorem LoopAt.kept {S : Nat → Prop} {W W' : World} {l D : Nat} {r : Loop} (h : LoopAt W l D r) (hk : Kept S W W') (h1 : ¬ S l) (h2 : ¬ S D) : LoopAt W' l D r :=
  ⟨(hk.block l (Array.getElem?_eq_some_iff.1 h.rec_).1 h1).trans h.rec_, (hk.block D (Array.getElem?_eq_some_iff.1 h.def_).1 h2).trans h.def_, h.ne_⟩

/-- The statement. -/
theorem rangeFunc_wide {n : Nat} {P : Program} {g : Operand} {ps : Array Tmp} {assign body : Code} {Q : Exit → Act → World → Prop} {a : Act} {w : World} {gf : FuncId} {lb : Array Value}
    (hg : a.eval g = .func (.func gf) #[] lb) (hinv : ∀ (x : Value) (W : World), (invoke (.fn (.func gf) lb) #[x]).run P W = .ok (.enter gf (#[x] ++ lb)) W)
    (h : ∀ fn r, r = loopRec fn a.tmps ps assign body w.heap.size .ready → CallsIn Fence.wide (n - 1) P gf (#[.func (.yield (w.heap.size + 1)) #[] #[]] ++ lb) ((w.alloc (.deferred (some []))).alloc (.loop r))
      (rangePost Fence.wide n P (w.heap.size + 1) Q { a with defers := { target := .collected w.heap.size, args := #[] } :: a.defers })) :
    (Code.rangeFunc g ps assign body).wpIn Fence.wide n P Q a w := by
  refine wpIn_rangeFunc fun fn _ => ?_
  refine ⟨w.heap.size + 1, [{ target := .collected w.heap.size, args := #[] }], _, { target := .fn (.func gf) lb, args := #[.func (.yield (w.heap.size + 1)) #[] #[]] }, _, gf, _, _, run_enterLoop_outer _ _ _ _ _, ?_, fun _ _ => trivial, hinv _ _, fun h => (by cases h), h fn _ rfl⟩
  simp only [resolve, List.map_toArray, List.map_cons, List.map_nil, hg]
  rfl

/-- The two blocks, just laid. -/
theorem LoopAt.new (w : World) (r : Loop) : LoopAt ((w.alloc (.deferred (some []))).alloc (.loop r)) (w.heap.size + 1) w.heap.size r := by
  refine ⟨?_, ?_, by omega⟩
  · have := World.alloc_heap_new (w.alloc (.deferred (some []))) (.loop r)
    rwa [World.size_alloc] at this
  · exact (Below.heap_alloc _ _ _ (by simp)).trans (World.alloc_heap_new w _)
theorem Kept.putObj (W : World) (l : Nat) (o : Obj) : Kept (fun b => b = l) W (W.putObj l o) :=
  ⟨rfl, rfl, rfl, by simp, fun _ _ hn => World.putObj_heap_other hn⟩
theorem LoopAt.lt {W : World} {l D : Nat} {r : Loop} (h : LoopAt W l D r) : l < W.heap.size := (Array.getElem?_eq_some_iff.1 h.rec_).1
theorem LoopAt.put {W : World} {l D : Nat} {r : Loop} (h : LoopAt W l D r) (r' : Loop) : LoopAt (W.putObj l (.loop r')) l D r' :=
  ⟨World.putObj_heap_same h.lt, (World.putObj_heap_other h.ne_).trans h.def_, h.ne_⟩
/-- The record in a round. -/
def busyRec (r : Loop) : Loop := { r with state := .busy }
theorem LoopAt.begin_ {P : Program} {W : World} {l D : Nat} {r : Loop} (h : LoopAt W l D r) (hr : r.state = .ready) : (Instr.beginRound l).run P W = .ok () (W.putObj l (.loop (busyRec r))) :=
  run_beginRound h.rec_ hr
theorem LoopAt.end_ {P : Program} {W : World} {l D : Nat} {r : Loop} (h : LoopAt W l D (busyRec r)) (hr : r.state = .ready) (hp : r.pending = none) : (Instr.endRound l none).run P W = .ok (.bool true) (W.putObj l (.loop r)) := by
  rw [run_endRound none h.rec_]
  cases r
  simp only at hr hp
  subst hr hp
  rfl
/-- A round that leaves the loop by a jump. -/
def doneRec (r : Loop) (c : Code) : Loop := { r with state := .done, pending := some c }
theorem LoopAt.stop_ {P : Program} {W : World} {l D : Nat} {r : Loop} (c : Code) (h : LoopAt W l D (busyRec r)) : (Instr.endRound l (some c)).run P W = .ok (.bool false) (W.putObj l (.loop (doneRec r c))) := by
  rw [run_endRound (some c) h.rec_]
  rfl
/-- The record behind the loop. -/
def overRec (r : Loop) : Loop := { r with state := .exhausted }
theorem LoopAt.over_ {P : Program} {W : World} {l D : Nat} {r : Loop} (h : LoopAt W l D r) (hr : r.state = .ready) (hp : r.pending = none) : (Instr.endLoop l).run P W = .ok none (W.putObj l (.loop (overRec r))) :=
  (run_endLoop h.rec_ (by rw [hr]; decide)).trans (congrArg (fun p => Result.ok p (W.putObj l (.loop (overRec r)))) hp)
theorem LoopAt.over_done {P : Program} {W : World} {l D : Nat} {r : Loop} {c : Code} (h : LoopAt W l D (doneRec r c)) : (Instr.endLoop l).run P W = .ok (some c) (W.putObj l (.loop (overRec (doneRec r c)))) := by
  rw [run_endLoop h.rec_ (by simp [doneRec])]
  rfl
theorem Kept.takeDef {S : Nat → Prop} {w W : World} (h : Kept S w W) {D : Nat} (hD : w.heap.size ≤ D) : Kept S w (W.putObj D (.deferred none)) :=
  h.then_ (Kept.putObj W D _) fun i hi e => absurd e (by omega)

/-- append of ONE element that lies in a block of its own, inside a fence. -/
theorem listIn_push {F : Fence} {fu : Nat} {P : Program} (w : World) {ops : Array Oper} {rest : List Oper} {o : Oper} {a : Act} {Q : Exit → Act → World → Prop} (hgd : o.guard = none) (s x : Operand) (t : TypeId)
    (ho : o.op = .call { callee := .builtin .append, args := #[s, x], argTypes := #[t, t] })
    (base : Nat) (e : TypeId) (i : TypeInfo) (z : Value) (size bytes : Nat) (ht : P.underlying t = some (.slice e)) (hi : P.info? e = some i) (hz : i.zero = some z)
    (hsize : i.size = size) (hby : i.bytes = bytes) (hzs : z.cells.size = size) (hsz : 0 < size)
    (v : Value) (n : Nat) (xs : List Value) (hs : a.eval s = v) (hown : w.ownsRow base e size v n xs)
    (g0 : Nat) (cs : Array Value) (hx : a.eval x = .slice (some ⟨g0, 0, none⟩) 1 1) (hb : Blk w g0 e cs) (hl : cs.toList.length = 1 * size) (h1 : ∀ u ∈ cs.toList, u.oneCell' = true)
    (hbytes : (n + 1) * bytes ≤ 140737488355328) (hby0 : 0 < bytes) (hbase : base ≤ g0)
    (h : ∀ g cap w', w'.ownsRow base e size (.slice (some ⟨g, 0, none⟩) (n + 1) cap) (n + 1) (xs ++ cs.toList) → w.grownBy w' v.ownBlock → (v.ownBlock = some g ∨ g = w.heap.size) → g < w'.heap.size → wpListIn F fu P ops Q rest (a.put o.dst (.slice (some ⟨g, 0, none⟩) (n + 1) cap)) w') : wpListIn F fu P ops Q (o :: rest) a w := by
  refine wpListIn_plain hgd fun K hK' => ?_
  obtain ⟨g, cap, w', hrun, r1, r2, r3, r4⟩ := run_append_lies (P := P) w t o.type base e i z size bytes ht hi hz hsize hby hzs hsz v n xs hown ⟨g0, 0, none⟩ 1 1 cs.toList hl (World.news_of_block hb) h1 (by omega)
    (by have := Nat.le_mul_of_pos_right (n + 1) hby0; unfold maxLen; omega) hbytes (Nat.le_of_lt (Nat.lt_of_le_of_lt hbase hb.lt)) w.heap.size rfl
  unfold Oper.wpIn
  refine ⟨?_, ?_⟩
  · simp [Oper.about, ho, resolve, Target.leads, Sem.run_pure]
  · rw [Oper.semAt_plain F _ _ (by rw [ho]; intro c hc'; cases hc')]
    simp [execOp, ho, resolve, invoke, builtin, hs, hx, hrun, Result.andThen]
    exact hK' _ _ (h g cap w' r1 r2 r3 r4)
end Go.Proofs.Ytbgbhfmchpdkcaa

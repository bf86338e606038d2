/- A table laid: share.Put. -/
import Derived.Test.YtlipnnibagidiaaGreatSwF
import Derived.Test.YtlipnnibagidiaaGreatCoP
import Derived.TacticsIn
import Derived.BigFrameIn
import Derived.RegionIn
import Derived.LoopIn
import Derived.OwnWalkIn
import Derived.RangeFuncRecord
import Derived.RangeFuncLeaves
import Derived.Deep.RegionHeldLaw
import Derived.Deep.RegionHeld3
import Derived.Lib.Hide
namespace Go.Proofs.YtlipnnibagidiaaGreat
open Go.RowKit Go.Lib
def loopRec (fn : FuncId) (tmps : Array Value) (ps : Array Tmp) (assign body : Code) (D : Nat) (st : LoopState) : Loop :=
  { state := st, pending := none, fn, tmps, params := ps, assign, body, defers := D }
structure LoopAt (W : World) (l D : Nat) (r : Loop) : Prop where
  rec_ : W.heap[l]? = some (.loop r)
  def_ : W.heap[D]? = some (.deferred (some []))
  ne_ : D ≠ l
theorem LoopAt.kept {S : Nat → Prop} {W W' : World} {l D : Nat} {r : Loop} (h : LoopAt W l D r) (hk : Kept S W W') (h1 : ¬ S l) (h2 : ¬ S D) : LoopAt W' l D r :=
  ⟨(hk.block l (Array.getElem?_eq_some_iff.1 h.rec_).1 h1).trans h.rec_, (hk.block D (Array.getElem?_eq_some_iff.1 h.def_).1 h2).trans h.def_, h.ne_⟩
theorem rangeFunc_wide {n : Nat} {P : Program} {g : Operand} {ps : Array Tmp} {assign body : Code} {Q : Exit → Act → World → Prop} {a : Act} {w : World} {gf : FuncId} {lb : Array Value}
    (hg : a.eval g = .func (.func gf) #[] lb) (hinv : ∀ (x : Value) (W : World), (invoke (.fn (.func gf) lb) #[x]).run P W = .ok (.enter gf (#[x] ++ lb)) W)
    (h : ∀ fn r, r = loopRec fn a.tmps ps assign body w.heap.size .ready → CallsIn Fence.wide (n - 1) P gf (#[.func (.yield (w.heap.size + 1)) #[] #[]] ++ lb) ((w.alloc (.deferred (some []))).alloc (.loop r))
      (rangePost Fence.wide n P (w.heap.size + 1) Q { a with defers := { target := .collected w.heap.size, args := #[] } :: a.defers })) :
    (Code.rangeFunc g ps assign body).wpIn Fence.wide n P Q a w := by
  refine wpIn_rangeFunc fun fn _ => ?_
  refine ⟨w.heap.size + 1, [{ target := .collected w.heap.size, args := #[] }], _, { target := .fn (.func gf) lb, args := #[.func (.yield (w.heap.size + 1)) #[] #[]] }, _, gf, _, _, run_enterLoop_outer _ _ _ _ _, ?_, fun _ _ => trivial, hinv _ _, fun h => (by cases h), h fn _ rfl⟩
  simp only [resolve, List.map_toArray, List.map_cons, List.map_nil, hg]
  rfl
theorem LoopAt.new (w : World) (r : Loop) : LoopAt ((w.alloc (.deferred (some []))).alloc (.loop r)) (w.heap.size + 1) w.heap.size r := by
  refine ⟨?_, ?_, by omega⟩
  · have := World.alloc_heap_new (w.alloc (.deferred (some []))) (.loop r)
    rwa [World.size_alloc] at this
  · exact (Below.heap_alloc _ _ _ (by simp)).trans (World.alloc_heap_new w _)
theorem Kept.putObj (W : World) (l : Nat) (o : Obj) : Kept (fun b => b = l) W (W.putObj l o) :=
  ⟨rfl, rfl, rfl, by simp, fun _ _ hn => World.putObj_heap_other hn⟩
theorem LoopAt.lt {W : World} {l D : Nat} {r : Loop} (h : LoopAt W l D r) : l < W.heap.size := (Array.getElem?_eq_some_iff.1 h.rec_).1
theorem LoopAt.put {W : World} {l D : Nat} {r : Loop} (h : LoopAt W l D r) (r' : Loop) : LoopAt (W.putObj l (.loop r')) l D r' :=
  ⟨World.putObj_heap_same h.lt, (World.putObj_heap_other h.ne_).trans h.def_, h.ne_⟩
def busyRec (r : Loop) : Loop := { r with state := .busy }
theorem LoopAt.begin_ {P : Program} {W : World} {l D : Nat} {r : Loop} (h : LoopAt W l D r) (hr : r.state = .ready) : (Instr.beginRound l).run P W = .ok () (W.putObj l (.loop (busyRec r))) :=
  run_beginRound h.rec_ hr
theorem LoopAt.end_ {P : Program} {W : World} {l D : Nat} {r : Loop} (h : LoopAt W l D (busyRec r)) (hr : r.state = .ready) (hp : r.pending = none) : (Instr.endRound l none).run P W = .ok (.bool true) (W.putObj l (.loop r)) := by
  rw [run_endRound none h.rec_]
  cases r
  simp only at hr hp
  subst hr hp
  rfl
def overRec (r : Loop) : Loop := { r with state := .exhausted }
theorem LoopAt.over_ {P : Program} {W : World} {l D : Nat} {r : Loop} (h : LoopAt W l D r) (hr : r.state = .ready) (hp : r.pending = none) : (Instr.endLoop l).run P W = .ok none (W.putObj l (.loop (overRec r))) :=
  (run_endLoop h.rec_ (by rw [hr]; decide)).trans (congrArg (fun p => Result.ok p (W.putObj l (.loop (overRec r)))) hp)
theorem addr_add0 (b off k : Nat) : (⟨b, off, none⟩ : Addr).add k = ⟨b, off + k, none⟩ := by unfold Addr.add; split <;> simp_all
theorem Row.from {w : World} {A : Option Addr} {zs : List Int} (h : Row w A zs) (i : Nat) (hi : i < zs.length) {c : Nat} (hc : zs.length ≤ c) : Row w (if c = i + 1 then A else A.map (·.add (i + 1))) (zs.drop (i + 1)) := by
  refine ⟨by rw [List.length_drop]; have := h.len; omega, ?_⟩
  by_cases h1 : i + 1 < zs.length
  · obtain ⟨b, off, rfl, hb, hcc⟩ := h.at_.resolve_left (by omega)
    rw [if_neg (by omega)]
    refine .inr ⟨b, off + (i + 1), by simp [addr_add0], hb, fun j hj => ?_⟩
    rw [List.length_drop] at hj
    rw [Nat.add_assoc, hcc (i + 1 + j) (by omega), List.getElem_drop]
  · exact .inl (by rw [List.length_drop]; omega)
def NoOut (Q : Exit → Act → World → Prop) : Exit → Act → World → Prop
  | .outgrown, _, _ => False
  | .panic _, _, _ => False
  | e, a, w => Q e a w
theorem NoOut.normal {Q : Exit → Act → World → Prop} {a : Act} {w : World} (h : Q .normal a w) : NoOut Q .normal a w := h
theorem NoOut.lets {Q : Exit → Act → World → Prop} (h : LetsOut (NoOut Q)) : False := by
  obtain ⟨a, w, h1⟩ := h
  exact h1
section
variable {l n : Nat} {P : Program} {ops : Array Oper} {Q : Exit → Act → World → Prop} {md : Region.Mode}
theorem wpIn_of_wp {o : Oper} (hd : ∀ c, o.op ≠ .defer c) {K K' : Act → World → Prop} (hK : ∀ a w, K a w → K' a w) {a : Act} {w : World} (h : o.wp P a w K (NoOut Q)) : o.wpIn (Fence.wide.inRound l) n P a w K' Q := by
  refine ⟨fun f _ => trivial, ?_⟩
  rw [Oper.semAt_eq _ _ _ hd]
  unfold Oper.wp at h
  generalize (execOp a.eval o).run P w = r at *
  cases r with
  | ok x w' =>
    cases x with
    | enter f args =>
      refine ⟨fun h => by simp [Fence.wide] at h, ?_⟩
      refine CallsIn.mono (F := Fence.wide) (callsIn_wide.2 h) ?_
      intro e w'' he
      cases e with
      | returned v => exact hK _ _ he
      | panicked c => exact (he : False).elim
      | outgrown => exact (NoOut.lets he).elim
    | row row args =>
      refine ⟨fun h => by simp [Fence.wide] at h, ?_⟩
      intro c cs _
      obtain ⟨v, w2, hr, hs⟩ := h c cs
      exact ⟨v, w2, hK _ _ hr, stepsIn_wide.2 hs⟩
    | value v => exact hK _ _ h
    | skip => exact hK _ _ h
    | defer d => exact hK _ _ h
    | _ => exact h.elim
  | halt x w' =>
    cases x <;> exact (h : False).elim
theorem wpOpIn_of_wpOp (hd : ∀ (i : Nat) (o : Oper) c, ops[i]? = some o → o.op ≠ .defer c) {i : Nat} {K K' : Act → World → Prop} (hK : ∀ a w, K a w → K' a w) {a : Act} {w : World} (h : wpOp P ops (NoOut Q) i K a w) : wpOpIn (Fence.wide.inRound l) n P ops Q i K' a w := by
  unfold wpOp at h
  unfold Go.wpOpIn
  cases ho : ops[i]? with
  | none => rw [ho] at h; exact hK _ _ h
  | some o =>
    rw [ho] at h
    simp only at h ⊢
    split
    · rename_i hw
      rw [if_pos hw] at h
      rcases h with h | ⟨_, hl⟩
      · exact wpIn_of_wp (fun c => hd i o c ho) hK h
      · exact (NoOut.lets hl).elim
    · rename_i hw
      rw [if_neg hw] at h
      exact ⟨fun f _ => trivial, hK _ _ h⟩
theorem wpAnyIn_of_wpAny (hd : ∀ (i : Nat) (o : Oper) c, ops[i]? = some o → o.op ≠ .defer c) : ∀ (fuel : Nat) (listed : Array Bool) (a : Act) (w : World), wpAny P md ops (NoOut Q) fuel listed a w → wpAnyIn (Fence.wide.inRound l) n P md ops Q fuel listed a w
  | 0, _, _, _, h => ⟨h.1, h.2⟩
  | fuel + 1, _, _, _, h => ⟨fun h0 => h.1 h0, fun i hi => wpOpIn_of_wpOp hd (fun a' w' => wpAnyIn_of_wpAny hd fuel _ a' w') (h.2 i hi)⟩
def noDefer (ops : Array Oper) : Bool := ops.all fun o => match o.op with
  | .defer _ => false
  | _ => true
theorem noDefer_spec (h : noDefer ops = true) (i : Nat) (o : Oper) (c) (ho : ops[i]? = some o) : o.op ≠ .defer c := by
  intro e
  unfold noDefer at h
  rw [Array.all_eq_true] at h
  obtain ⟨hi, rfl⟩ := Array.getElem?_eq_some_iff.1 ho
  have := h i hi
  rw [e] at this
  cases this
theorem wpIn_region_round {S : World → Prop} {id : Nat} {a : Act} {w : World} (hm : P.follows .mixedOrders = true) (hd : noDefer ops = true) (hS : S w.drew)
    (h : S w.drew → wpAnyH P .any ops (NoOut Q) S ops.size (Array.replicate ops.size false) a w.drew) : (Code.region id ops true).wpIn (Fence.wide.inRound l) n P Q a w :=
  wpIn_region_any hm (wpAnyIn_of_wpAny (noDefer_spec hd) _ _ _ _ (wpAny_of_held _ _ _ _ (h hS)))
end
end Go.Proofs.YtlipnnibagidiaaGreat
namespace Go.Proofs.YtlipnnibagidiaaGreat
open Go.RowKit Go.Lib
attribute [local go_sem] Oper.semAt_some
theorem run_store_func (P : Program) (w : World) (a : Addr) (m : Mode) (f : Fn) (bs cs : Array Value) : (store a (.func f bs cs) m).run P w = stored P w a (.func f bs cs) m := run_store P w a _ m rfl
attribute [local go_sem] run_store_func
theorem cell_putObj {W : World} {l : Nat} {r : Loop} (h : W.heap[l]? = some (.loop r)) (o : Obj) {p : Addr} {v : Value} (hc : W.cell? p = some v) : (W.putObj l o).cell? p = some v := by
  have hne : p.block ≠ l := by
    rintro e
    subst e
    simp [World.cell?, h] at hc
  rw [World.cell?_of_block (w := W) (World.putObj_heap_other hne)]
  exact hc
theorem Row.putObj {W : World} {A : Option Addr} {zs : List Int} (h : Row W A zs) {l : Nat} {r : Loop} (hl : W.heap[l]? = some (.loop r)) (o : Obj) : Row (W.putObj l o) A zs :=
  ⟨h.len, h.at_.imp id fun ⟨b, off, h1, h2, h3⟩ => ⟨b, off, h1, Nat.lt_of_lt_of_le h2 (Kept.putObj W l o).size, fun i hi => cell_putObj hl o (h3 i hi)⟩⟩
theorem NdAt.putObj {W : World} {b o : Nat} {n : Nd} (h : NdAt W b o n) {l : Nat} {r : Loop} (hl : W.heap[l]? = some (.loop r)) (ob : Obj) : NdAt (W.putObj l ob) b o n :=
  ⟨Nat.lt_of_lt_of_le h.lt (Kept.putObj W l ob).size, fun j hj => by
    obtain ⟨v, hv⟩ : ∃ v, (nodeCells n)[j]? = some v := ⟨_, List.getElem?_eq_getElem (show j < (nodeCells n).length from hj)⟩
    rw [hv]
    exact cell_putObj hl ob ((h.cells j hj).trans hv), h.wf⟩
theorem Tab.putObj {W : World} {A : Option Addr} {T : List Nd} (h : Tab W A T) {l : Nat} {r : Loop} (hl : W.heap[l]? = some (.loop r)) (o : Obj) : Tab (W.putObj l o) A T :=
  ⟨h.len, h.at_.imp id fun ⟨b, off, h1, h2, h3⟩ => ⟨b, off, h1, Nat.lt_of_lt_of_le h2 (Kept.putObj W l o).size, fun i hi => (h3 i hi).putObj hl o⟩⟩
theorem Tab.far {W W' : World} {A : Option Addr} {T : List Nd} (h : Tab W A T) {g : Nat} (hg : ∀ i, W.cell? ⟨g, i + 7, none⟩ = none) (hk : Kept (fun b => b = g) W W') : Tab W' A T := by
  rcases Nat.eq_zero_or_pos T.length with h0 | h0
  · exact ⟨h.len, .inl h0⟩
  · refine h.kept1 hk fun b e => ?_
    obtain ⟨b', off, e', hb, hc⟩ := h.at_.resolve_left (by omega)
    rw [e] at e'
    injection e' with e'
    subst e'
    rintro rfl
    have h7 := (hc 0 h0).cells 7 (by omega)
    rw [show off + 0 * 8 + 7 = off + 7 by omega, hg] at h7
    cases h7
theorem OwnL.row {w : World} {B : Nat} {A : Option Addr} {n c : Nat} {zs : List Int} (h : OwnL w B (.slice A n c) zs) (hl : zs.length ≤ 100000) : Row w A zs ∧ (∀ b, A = some b → 0 < zs.length → B ≤ b.block ∧ b.block < w.heap.size) ∧ zs.length ≤ c ∧ n = zs.length := by
  rcases Nat.eq_zero_or_pos zs.length with h0 | h0
  · refine ⟨⟨hl, .inl h0⟩, fun b _ hp => by omega, by omega, ?_⟩
    rcases h.2 with ⟨e, _⟩ | ⟨g', cap, cur, e, _⟩
    · injection e with _ e _
      omega
    · injection e with _ e _
  · obtain ⟨g, cap, e, h1, h2, h3⟩ := own_form h h0
    injection e with e1 e2 e3
    subst e1 e2 e3
    refine ⟨⟨hl, .inr ⟨g, 0, rfl, h2, fun k hk => ?_⟩⟩, fun b e _ => by injection e with e; subst e; exact ⟨h1, h2⟩, h3, rfl⟩
    have := h.cells (g := g) rfl k (.int .i64 zs[k]) (by rw [List.getElem?_map, List.getElem?_eq_getElem hk]; rfl)
    rw [addr_add] at this
    rw [Nat.zero_add]
    exact this
section
variable {w W W' : World} {B L : Nat} {r : Loop} {RA : Option Addr} {R : List Int} {rc : Nat} {T : List Nd} {most e : Int}
end
end Go.Proofs.YtlipnnibagidiaaGreat

/- A range over a function, at the fence that asks nothing: the statement, met from the iterator's contract; a round, met from the body's walk. -/
import Derived.Test.YtlipnnibagidiaaGreatEuA
import Derived.TacticsIn
import Derived.BigFrameIn
import Derived.RegionIn
import Derived.LoopIn
import Derived.OwnWalkIn
import Derived.RangeFuncRecord
import Derived.RangeFuncLeaves
import Derived.Test.YtlipnnibagidiaaGreatSwF
import Derived.Deep.RegionHeldLaw
import Derived.Deep.RegionHeld3
namespace Go.Proofs.YtlipnnibagidiaaGreat
open Go.RowKit

/-- The record of a range over a function, as the statement lays it. -/
def loopRec (fn : FuncId) (tmps : Array Value) (ps : Array Tmp) (assign body : Code) (D : Nat) (st : LoopState) : Loop :=
  { state := st, pending := none, fn, tmps, params := ps, assign, body, defers := D }

/-- The loop's two blocks: the record at l, the block for the rounds' deferred calls at D. -/
structure LoopAt (W : World) (l D : Nat) (r : Loop) : Prop where
  rec_ : W.heap[l]? = some (.loop r)
  def_ : W.heap[D]? = some (.deferred (some []))
  ne_ : D ≠ l

theorem LoopAt.kept {S : Nat → Prop} {W W' : World} {l D : Nat} {r : Loop} (h : LoopAt W l D r) (hk : Kept S W W') (h1 : ¬ S l) (h2 : ¬ S D) : LoopAt W' l D r :=
  ⟨(hk.block l (Array.getElem?_eq_some_iff.1 h.rec_).1 h1).trans h.rec_, (hk.block D (Array.getElem?_eq_some_iff.1 h.def_).1 h2).trans h.def_, h.ne_⟩

/-- The statement. -/
theorem rangeFunc_wide {n : Nat} {P : Program} {g : Operand} {ps : Array Tmp} {assign body : Code} {Q : Exit → Act → World → Prop} {a : Act} {w : World} {gf : FuncId} {lb : Array Value}
    (hg : a.eval g = .func (.func gf) #[] lb) (hinv : ∀ (x : Value) (W : World), (invoke (.fn (.func gf) lb) #[x]).run P W = .ok (.enter gf (#[x] ++ lb)) W)
    (h : ∀ fn r, r = loopRec fn a.tmps ps assign body w.heap.size .ready → CallsIn Fence.wide (n - 1) P gf (#[.func (.yield (w.heap.size + 1)) #[] #[]] ++ lb) ((w.alloc (.deferred (some []))).alloc (.loop r))
      (rangePost Fence.wide n P (w.heap.size + 1) Q { a with defers := { target := .collected w.heap.size, args := #[] } :: a.defers })) :
    (Code.rangeFunc g ps assign body).wpIn Fence.wide n P Q a w := by
  refine wpIn_rangeFunc fun fn _ => ?_
  refine ⟨w.heap.size + 1, [{ target := .collected w.heap.size, args := #[] }], _, { target := .fn (.func gf) lb, args := #[.func (.yield (w.heap.size + 1)) #[] #[]] }, _, gf, _, _, run_enterLoop_outer _ _ _ _ _, ?_, fun _ _ => trivial, hinv _ _, fun h => (by cases h), h fn _ rfl⟩
  simp only [resolve, List.map_toArray, List.map_cons, List.map_nil, hg]
  rfl

/-- The two blocks, just laid. -/
theorem LoopAt.new (w : World) (r : Loop) : LoopAt ((w.alloc (.deferred (some []))).alloc (.loop r)) (w.heap.size + 1) w.heap.size r := by
  refine ⟨?_, ?_, by omega⟩
  · have := World.alloc_heap_new (w.alloc (.deferred (some []))) (.loop r)
    rwa [World.size_alloc] at this
  · exact (Below.heap_alloc _ _ _ (by simp)).trans (World.alloc_heap_new w _)
theorem Kept.putObj (W : World) (l : Nat) (o : Obj) : Kept (fun b => b = l) W (W.putObj l o) :=
  ⟨rfl, rfl, rfl, by simp, fun _ _ hn => World.putObj_heap_other hn⟩
theorem LoopAt.lt {W : World} {l D : Nat} {r : Loop} (h : LoopAt W l D r) : l < W.heap.size := (Array.getElem?_eq_some_iff.1 h.rec_).1
theorem LoopAt.put {W : World} {l D : Nat} {r : Loop} (h : LoopAt W l D r) (r' : Loop) : LoopAt (W.putObj l (.loop r')) l D r' :=
  ⟨World.putObj_heap_same h.lt, (World.putObj_heap_other h.ne_).trans h.def_, h.ne_⟩
/-- The record in a round. -/
def busyRec (r : Loop) : Loop := { r with state := .busy }
theorem LoopAt.begin_ {P : Program} {W : World} {l D : Nat} {r : Loop} (h : LoopAt W l D r) (hr : r.state = .ready) : (Instr.beginRound l).run P W = .ok () (W.putObj l (.loop (busyRec r))) :=
  run_beginRound h.rec_ hr
theorem LoopAt.end_ {P : Program} {W : World} {l D : Nat} {r : Loop} (h : LoopAt W l D (busyRec r)) (hr : r.state = .ready) (hp : r.pending = none) : (Instr.endRound l none).run P W = .ok (.bool true) (W.putObj l (.loop r)) := by
  rw [run_endRound none h.rec_]
  cases r
  simp only at hr hp
  subst hr hp
  rfl
/-- A round that leaves the loop by a jump. -/
def doneRec (r : Loop) (c : Code) : Loop := { r with state := .done, pending := some c }
theorem LoopAt.stop_ {P : Program} {W : World} {l D : Nat} {r : Loop} (c : Code) (h : LoopAt W l D (busyRec r)) : (Instr.endRound l (some c)).run P W = .ok (.bool false) (W.putObj l (.loop (doneRec r c))) := by
  rw [run_endRound (some c) h.rec_]
  rfl
/-- The record behind the loop. -/
def overRec (r : Loop) : Loop := { r with state := .exhausted }
theorem LoopAt.over_ {P : Program} {W : World} {l D : Nat} {r : Loop} (h : LoopAt W l D r) (hr : r.state = .ready) (hp : r.pending = none) : (Instr.endLoop l).run P W = .ok none (W.putObj l (.loop (overRec r))) :=
  (run_endLoop h.rec_ (by rw [hr]; decide)).trans (congrArg (fun p => Result.ok p (W.putObj l (.loop (overRec r)))) hp)
theorem LoopAt.over_done {P : Program} {W : World} {l D : Nat} {r : Loop} {c : Code} (h : LoopAt W l D (doneRec r c)) : (Instr.endLoop l).run P W = .ok (some c) (W.putObj l (.loop (overRec (doneRec r c)))) := by
  rw [run_endLoop h.rec_ (by simp [doneRec])]
  rfl
theorem Kept.takeDef {S : Nat → Prop} {w W : World} (h : Kept S w W) {D : Nat} (hD : w.heap.size ≤ D) : Kept S w (W.putObj D (.deferred none)) :=
  h.then_ (Kept.putObj W D _) fun i hi e => absurd e (by omega)

/-- append of ONE element that lies in a block of its own, inside a fence. -/
theorem listIn_push {F : Fence} {fu : Nat} {P : Program} (w : World) {ops : Array Oper} {rest : List Oper} {o : Oper} {a : Act} {Q : Exit → Act → World → Prop} (hgd : o.guard = none) (s x : Operand) (t : TypeId)
    (ho : o.op = .call { callee := .builtin .append, args := #[s, x], argTypes := #[t, t] })
    (base : Nat) (e : TypeId) (i : TypeInfo) (z : Value) (size bytes : Nat) (ht : P.underlying t = some (.slice e)) (hi : P.info? e = some i) (hz : i.zero = some z)
    (hsize : i.size = size) (hby : i.bytes = bytes) (hzs : z.cells.size = size) (hsz : 0 < size)
    (v : Value) (n : Nat) (xs : List Value) (hs : a.eval s = v) (hown : w.ownsRow base e size v n xs)
    (g0 : Nat) (cs : Array Value) (hx : a.eval x = .slice (some ⟨g0, 0, none⟩) 1 1) (hb : Blk w g0 e cs) (hl : cs.toList.length = 1 * size) (h1 : ∀ u ∈ cs.toList, u.oneCell' = true)
    (hbytes : (n + 1) * bytes ≤ 140737488355328) (hby0 : 0 < bytes) (hbase : base ≤ g0)
    (h : ∀ g cap w', w'.ownsRow base e size (.slice (some ⟨g, 0, none⟩) (n + 1) cap) (n + 1) (xs ++ cs.toList) → w.grownBy w' v.ownBlock → (v.ownBlock = some g ∨ g = w.heap.size) → g < w'.heap.size → wpListIn F fu P ops Q rest (a.put o.dst (.slice (some ⟨g, 0, none⟩) (n + 1) cap)) w') : wpListIn F fu P ops Q (o :: rest) a w := by
  refine wpListIn_plain hgd fun K hK' => ?_
  obtain ⟨g, cap, w', hrun, r1, r2, r3, r4⟩ := run_append_lies (P := P) w t o.type base e i z size bytes ht hi hz hsize hby hzs hsz v n xs hown ⟨g0, 0, none⟩ 1 1 cs.toList hl (World.news_of_block hb) h1 (by omega)
    (by have := Nat.le_mul_of_pos_right (n + 1) hby0; unfold maxLen; omega) hbytes (Nat.le_of_lt (Nat.lt_of_le_of_lt hbase hb.lt)) w.heap.size rfl
  unfold Oper.wpIn
  refine ⟨?_, ?_⟩
  · simp [Oper.about, ho, resolve, Target.leads, Sem.run_pure]
  · rw [Oper.semAt_plain F _ _ (by rw [ho]; intro c hc'; cases hc')]
    simp [execOp, ho, resolve, invoke, builtin, hs, hx, hrun, Result.andThen]
    exact hK' _ _ (h g cap w' r1 r2 r3 r4)
end Go.Proofs.YtlipnnibagidiaaGreat

/- Each two of a row: share.pairs and its iterator. -/
namespace Go.Proofs.YtlipnnibagidiaaGreat
open Go.RowKit

theorem addr_add0 (b off k : Nat) : (⟨b, off, none⟩ : Addr).add k = ⟨b, off + k, none⟩ := by unfold Addr.add; split <;> simp_all
theorem slice_from {A : Option Addr} {n c i : Nat} (hi : i < n) (W : World) : (Instr.sliceAt 27 (.slice A n c) (some (.int .i64 ((i : Int) + 1))) none none).run Tryz.prog W = .ok (.slice (if c = i + 1 then A else A.map (·.add (i + 1))) (n - (i + 1)) (c - (i + 1))) W := by
  have t1 : (0 : Int) ≤ (i : Int) + 1 := by omega
  have t2 : (i : Int) + 1 ≤ (n : Int) := by omega
  have t4 : ((i : Int) + 1).toNat = i + 1 := by omega
  simp [go_sem, t1, t2, t4]
theorem Row.from {w : World} {A : Option Addr} {zs : List Int} (h : Row w A zs) (i : Nat) (hi : i < zs.length) {c : Nat} (hc : zs.length ≤ c) : Row w (if c = i + 1 then A else A.map (·.add (i + 1))) (zs.drop (i + 1)) := by
  refine ⟨by rw [List.length_drop]; have := h.len; omega, ?_⟩
  by_cases h1 : i + 1 < zs.length
  · obtain ⟨b, off, rfl, hb, hcc⟩ := h.at_.resolve_left (by omega)
    rw [if_neg (by omega)]
    refine .inr ⟨b, off + (i + 1), by simp [addr_add0], hb, fun j hj => ?_⟩
    rw [List.length_drop] at hj
    rw [Nat.add_assoc, hcc (i + 1 + j) (by omega), List.getElem_drop]
  · exact .inl (by rw [List.length_drop]; omega)

theorem pairs_ok {w : World} (A : Option Addr) (n c : Nat) :
    Calls Tryz.prog 56 #[.slice A n c] w fun e w' => e = .returned (.func (.func 93) #[] #[.pointer (some ⟨w.heap.size, 0, none⟩)]) ∧ w' = w.alloc (.cells #[.slice A n c] 27) := by
  go_enter Tryz.func56, Tryz.ntmps56
  go_wp2
  go_ret
  exact ⟨rfl, rfl⟩

/-- What is left behind the pair of places i, j. -/
def restL (l : List Int) (i j : Nat) : List (Int × Int) := (((l.drop (i + 1)).drop j).map fun y => (l.getD i 0, y)) ++ pairsL (l.drop (i + 1))
theorem rest_zero {l : List Int} {i : Nat} (h : i < l.length) : restL l i 0 = pairsL (l.drop i) := by
  rw [List.drop_eq_getElem_cons h]
  unfold restL
  rw [List.drop_zero, List.getD_eq_getElem?_getD, List.getElem?_eq_getElem h]
  rfl
theorem rest_end {l : List Int} {i j : Nat} (h : (l.drop (i + 1)).length ≤ j) : restL l i j = pairsL (l.drop (i + 1)) := by
  unfold restL
  rw [List.drop_of_length_le h]
  rfl
theorem rest_step {l : List Int} {i j : Nat} (h : j < (l.drop (i + 1)).length) : restL l i j = (l.getD i 0, (l.drop (i + 1))[j]) :: restL l i (j + 1) := by
  unfold restL
  rw [List.drop_eq_getElem_cons h]
  rfl
theorem rest_at {l M : List Int} {i j : Nat} (hM : l.drop (i + 1) = M) (h : j < M.length) : restL l i j = (l.getD i 0, M[j]) :: restL l i (j + 1) := by
  subst hM
  exact rest_step h
theorem pairs_end {l : List Int} {i : Nat} (h : l.length ≤ i) : pairsL (l.drop i) = [] := by
  rw [List.drop_of_length_le h]
  rfl

set_option maxRecDepth 100000 in
set_option maxHeartbeats 4000000 in
theorem pairs_iter (l b1 : Nat) (L : List Int) (A : Option Addr) (c : Nat) (X : List (Int × Int) → World → Prop) (Z : World → Prop)
    (hc : L.length ≤ c) (hL : L.length ≤ 100000)
    (hXg : ∀ r W, X r W → Row W A L ∧ Blk W b1 27 #[.slice A L.length c])
    (hY : ∀ (p : Int × Int) (r : List (Int × Int)) (W : World), X (p :: r) W →
      ∃ fn tmps assign body, (Instr.yield l #[.int .i64 p.1, .int .i64 p.2]).run Tryz.prog W = .ok (.round l fn tmps assign body) W ∧
        RoundIn Fence.wide 0 Tryz.prog l fn tmps assign body W fun e W' => (e = .returned (.bool true) ∧ X r W') ∨ (e = .returned (.bool false) ∧ Z W'))
    (w : World) (hx0 : X (pairsL L) w) :
    Calls Tryz.prog 93 #[.func (.yield l) #[] #[], .pointer (some ⟨b1, 0, none⟩)] w fun e W' => e = .returned (.tuple #[]) ∧ (X [] W' ∨ Z W') := by
  have HX := Lib.hid hXg
  have HY := Lib.hid hY
  have H0 := Lib.hid hx0
  have hb1 := (hXg _ _ hx0).2
  have c1 := hb1.cell 0
  simp only [List.getElem?_toArray, List.getElem?_cons_zero] at c1
  clear hXg hY hx0 hb1
  go_enter Tryz.func93, Tryz.ntmps93
  go_wp2
  go_loopg [9] L.length (fun g v wr => ∃ i : Nat, i + g = L.length ∧ v = .int .i64 i ∧ X (pairsL (L.drop i)) wr)
  case atStart => exact ⟨0, by omega, rfl, H0.out⟩
  case round =>
    obtain ⟨i, hig, rfl, hx⟩ := hrel
    have Hx := Lib.hid hx
    obtain ⟨hrow, hblk⟩ := HX.out _ _ hx
    have HR := Lib.hid hrow
    have c2 := hblk.cell 0
    simp only [List.getElem?_toArray, List.getElem?_cons_zero] at c2
    clear hx hblk hrow c1
    cases gk with
    | zero =>
      obtain rfl : i = L.length := by omega
      have d1 : decide ((L.length : Int) < L.length) = false := by simp
      have hx := Hx.out
      rw [pairs_end (Nat.le_refl _)] at hx
      have Hx2 := Lib.hid hx
      clear hx
      go_wp2
      refine bodyPost_end (results_none rfl _ _ _) rfl ⟨rfl, .inl Hx2.out⟩
    | succ gk =>
      have hlt : i < L.length := by omega
      have d1 : decide ((i : Int) < L.length) = true := by simp; omega
      have t1 : (0 : Int) ≤ (i : Int) := by omega
      have t2 : (i : Int) < (L.length : Int) := by omega
      obtain ⟨b, off, hA, hbb, hcell⟩ := HR.out.at_.resolve_left (by omega)
      have y0 := hcell i hlt
      have hgd : L.getD i 0 = L[i] := by rw [List.getD_eq_getElem?_getD, List.getElem?_eq_getElem hlt]; rfl
      have HX1 : Hid (X (restL L i 0) wr) := Lib.hid (by rw [rest_zero hlt]; exact Hx.out)
      have HGD := Lib.hid hgd
      generalize L[i] = x at *
      have HF : Hid (∀ W, Row W A L → Row W (if c = i + 1 then A else A.map (·.add (i + 1))) (L.drop (i + 1))) := Lib.hid (fun W hW => hW.from i hlt hc)
      have hsf := fun W => slice_from (A := A) (c := c) hlt W
      obtain ⟨SA, hSA⟩ : ∃ SA, (if c = i + 1 then A else A.map (·.add (i + 1))) = SA := ⟨_, rfl⟩
      rw [hSA] at HF
      simp only [hSA] at hsf
      have HDL : Hid ((L.drop (i + 1)).length = L.length - (i + 1)) := Lib.hid List.length_drop
      obtain ⟨M, hM⟩ : ∃ M, L.drop (i + 1) = M := ⟨_, rfl⟩
      rw [hM] at HF HDL
      obtain ⟨cr, hcr⟩ : ∃ cr, c - (i + 1) = cr := ⟨_, rfl⟩
      rw [hcr] at hsf
      have hsf2 : ∀ W, (Instr.sliceAt 27 (.slice A L.length c) (some (.int .i64 ((i : Int) + 1))) none none).run Tryz.prog W = .ok (.slice SA M.length cr) W := fun W => by rw [hsf, HDL.out]
      have HM := Lib.hid hM
      have hml : M.length ≤ 100000 := by rw [HDL.out]; omega
      clear hSA hM hsf hcell hgd hcr Hx
      subst hA
      have hw1 : wrap64 ((i : Int) + 1) = (i : Int) + 1 := by unfold wrap64; omega
      have HRM : Hid (∀ j, (h : j < M.length) → restL L i j = (x, M[j]) :: restL L i (j + 1)) := Lib.hid (fun j h => by rw [← HGD.out]; exact rest_at HM.out h)
      have HRE : Hid (restL L i M.length = pairsL (L.drop (i + 1))) := Lib.hid (rest_end (by rw [HM.out]; exact Nat.le_refl _))
      obtain ⟨go, rfl⟩ : ∃ go : Nat, go = gk := ⟨_, rfl⟩
      go_wp2
      go_loopg [19] M.length (fun g v wx => ∃ j : Nat, j + g = M.length ∧ v = .int .i64 j ∧ X (restL L i j) wx)
      case atStart => exact ⟨0, by omega, rfl, HX1.out⟩
      case round =>
        obtain ⟨j, hjg, rfl, hx⟩ := hrel
        have Hx := Lib.hid hx
        obtain ⟨hrow, hblk⟩ := HX.out _ _ hx
        have HR5 := Lib.hid (HF.out _ hrow)
        clear hx hrow hblk c2 y0
        cases gk with
        | zero =>
          obtain rfl : j = M.length := by omega
          have d2 : decide ((M.length : Int) < M.length) = false := by simp
          go_wp2
          go_roundg go
          case measure => omega
          case rel => exact ⟨i + 1, by omega, by go_num, by rw [← HRE.out]; exact Hx.out⟩
        | succ g2 =>
          have hlj : j < M.length := by omega
          have d2 : decide ((j : Int) < M.length) = true := by simp; omega
          have u1 : (0 : Int) ≤ (j : Int) := by omega
          have u2 : (j : Int) < (M.length : Int) := by omega
          obtain ⟨b', off', hA', hbb', hcell'⟩ := HR5.out.at_.resolve_left (by omega)
          subst hA'
          have z0 := hcell' j hlj
          obtain ⟨fn, tmps, assign, body, hyield, hround⟩ := HY.out (x, M[j]) (restL L i (j + 1)) _ (by rw [← HRM.out j hlj]; exact Hx.out)
          have Hround := Lib.hid hround
          clear hcell' hround hbb'
          generalize M[j] = y at *
          dsimp only at hyield
          go_upto_region 6 with (fail)
          refine (wpIn_wide (n := 1)).1 ?_
          gi_wp2
          refine Hround.out.mono ?_
          rintro e W5 (⟨rfl, hx5⟩ | ⟨rfl, hz5⟩)
          · have Hx5 := Lib.hid hx5
            clear hx5
            gi_wp2
            go_wp2
            go_roundg g2
            case measure => omega
            case rel => exact ⟨j + 1, by omega, by go_num, Hx5.out⟩
          · have HZ5 := Lib.hid hz5
            clear hz5
            gi_wp2
            go_wp2
            refine bodyPost_ret (v := .tuple #[]) (results_none rfl _ _ _) rfl ⟨rfl, .inr HZ5.out⟩
end Go.Proofs.YtlipnnibagidiaaGreat

/- A region that draws its order, in a round. -/
namespace Go.Proofs.YtlipnnibagidiaaGreat
open Go.RowKit Go.Lib

/-- What follows, with no outgrowing and no panic. -/
def NoOut (Q : Exit → Act → World → Prop) : Exit → Act → World → Prop
  | .outgrown, _, _ => False
  | .panic _, _, _ => False
  | e, a, w => Q e a w
theorem NoOut.normal {Q : Exit → Act → World → Prop} {a : Act} {w : World} (h : Q .normal a w) : NoOut Q .normal a w := h
theorem NoOut.lets {Q : Exit → Act → World → Prop} (h : LetsOut (NoOut Q)) : False := by
  obtain ⟨a, w, h1⟩ := h
  exact h1

/-- append inside a fence, by what it comes to. -/
theorem listIn_append {F : Fence} {fu : Nat} {P : Program} {w w' : World} {ops : Array Oper} {rest : List Oper} {o : Oper} {a : Act} {Q : Exit → Act → World → Prop} (hgd : o.guard = none) (s x : Operand) (t : TypeId)
    (ho : o.op = .call { callee := .builtin .append, args := #[s, x], argTypes := #[t, t] }) {u v v' : Value} (hs : a.eval s = u) (hx : a.eval x = v)
    (hrun : (Builtin.append_ #[t, t] o.type #[u, v]).run P w = .ok v' w') (h : wpListIn F fu P ops Q rest (a.put o.dst v') w') : wpListIn F fu P ops Q (o :: rest) a w := by
  refine wpListIn_plain hgd fun K hK' => ?_
  unfold Oper.wpIn
  refine ⟨?_, ?_⟩
  · simp [Oper.about, ho, resolve, Target.leads, Sem.run_pure]
  · rw [Oper.semAt_plain F _ _ (by rw [ho]; intro c hc'; cases hc')]
    simp [execOp, ho, resolve, invoke, builtin, hs, hx, hrun, Result.andThen]
    exact hK' _ _ h
section
variable {l n : Nat} {P : Program} {ops : Array Oper} {Q : Exit → Act → World → Prop} {md : Region.Mode}
theorem wpIn_of_wp {o : Oper} (hd : ∀ c, o.op ≠ .defer c) {K K' : Act → World → Prop} (hK : ∀ a w, K a w → K' a w) {a : Act} {w : World} (h : o.wp P a w K (NoOut Q)) : o.wpIn (Fence.wide.inRound l) n P a w K' Q := by
  refine ⟨fun f _ => trivial, ?_⟩
  rw [Oper.semAt_eq _ _ _ hd]
  unfold Oper.wp at h
  generalize (execOp a.eval o).run P w = r at *
  cases r with
  | ok x w' =>
    cases x with
    | enter f args =>
      refine ⟨fun h => by simp [Fence.wide] at h, ?_⟩
      refine CallsIn.mono (F := Fence.wide) (callsIn_wide.2 h) ?_
      intro e w'' he
      cases e with
      | returned v => exact hK _ _ he
      | panicked c => exact (he : False).elim
      | outgrown => exact (NoOut.lets he).elim
    | row row args =>
      refine ⟨fun h => by simp [Fence.wide] at h, ?_⟩
      intro c cs _
      obtain ⟨v, w2, hr, hs⟩ := h c cs
      exact ⟨v, w2, hK _ _ hr, stepsIn_wide.2 hs⟩
    | value v => exact hK _ _ h
    | skip => exact hK _ _ h
    | defer d => exact hK _ _ h
    | _ => exact h.elim
  | halt x w' =>
    cases x <;> exact (h : False).elim
theorem wpOpIn_of_wpOp (hd : ∀ (i : Nat) (o : Oper) c, ops[i]? = some o → o.op ≠ .defer c) {i : Nat} {K K' : Act → World → Prop} (hK : ∀ a w, K a w → K' a w) {a : Act} {w : World} (h : wpOp P ops (NoOut Q) i K a w) : wpOpIn (Fence.wide.inRound l) n P ops Q i K' a w := by
  unfold wpOp at h
  unfold Go.wpOpIn
  cases ho : ops[i]? with
  | none => rw [ho] at h; exact hK _ _ h
  | some o =>
    rw [ho] at h
    simp only at h ⊢
    split
    · rename_i hw
      rw [if_pos hw] at h
      rcases h with h | ⟨_, hl⟩
      · exact wpIn_of_wp (fun c => hd i o c ho) hK h
      · exact (NoOut.lets hl).elim
    · rename_i hw
      rw [if_neg hw] at h
      exact ⟨fun f _ => trivial, hK _ _ h⟩
theorem wpAnyIn_of_wpAny (hd : ∀ (i : Nat) (o : Oper) c, ops[i]? = some o → o.op ≠ .defer c) : ∀ (fuel : Nat) (listed : Array Bool) (a : Act) (w : World), wpAny P md ops (NoOut Q) fuel listed a w → wpAnyIn (Fence.wide.inRound l) n P md ops Q fuel listed a w
  | 0, _, _, _, h => ⟨h.1, h.2⟩
  | fuel + 1, _, _, _, h => ⟨fun h0 => h.1 h0, fun i hi => wpOpIn_of_wpOp hd (fun a' w' => wpAnyIn_of_wpAny hd fuel _ a' w') (h.2 i hi)⟩
/-- Of a list of operations, none defers. -/
def noDefer (ops : Array Oper) : Bool := ops.all fun o => match o.op with
  | .defer _ => false
  | _ => true
theorem noDefer_spec (h : noDefer ops = true) (i : Nat) (o : Oper) (c) (ho : ops[i]? = some o) : o.op ≠ .defer c := by
  intro e
  unfold noDefer at h
  rw [Array.all_eq_true] at h
  obtain ⟨hi, rfl⟩ := Array.getElem?_eq_some_iff.1 ho
  have := h i hi
  rw [e] at this
  cases this
/-- **A region that draws its order, in a round**: walked as in a plain function, with loads that may be taken first. -/
theorem wpIn_region_round {S : World → Prop} {id : Nat} {a : Act} {w : World} (hm : P.follows .mixedOrders = true) (hd : noDefer ops = true) (hS : S w.drew)
    (h : S w.drew → wpAnyH P .any ops (NoOut Q) S ops.size (Array.replicate ops.size false) a w.drew) : (Code.region id ops true).wpIn (Fence.wide.inRound l) n P Q a w :=
  wpIn_region_any hm (wpAnyIn_of_wpAny (noDefer_spec hd) _ _ _ _ (wpAny_of_held _ _ _ _ (h hS)))
end
end Go.Proofs.YtlipnnibagidiaaGreat

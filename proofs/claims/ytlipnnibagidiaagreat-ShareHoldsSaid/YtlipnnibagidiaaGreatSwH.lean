/- A table laid: share.Put. -/
import Derived.Test.YtlipnnibagidiaaGreatSwF
import Derived.Test.YtlipnnibagidiaaGreatCoP
import Derived.TacticsIn
import Derived.BigFrameIn
import Derived.RegionIn
import Derived.LoopIn
import Derived.OwnWalkIn
import Derived.RangeFuncRecord
import Derived.RangeFuncLeaves
import Derived.Deep.RegionHeldLaw
import Derived.Deep.RegionHeld3
import Derived.Lib.Hide
namespace Go.Proofs.YtlipnnibagidiaaGreat
open Go.RowKit Go.Lib
def loopRec (fn : FuncId) (tmps : Array Value) (ps : Array Tmp) (assign body : Code) (D : Nat) (st : LoopState) : Loop :=
  { state := st, pending := none, fn, tmps, params := ps, assign, body, defers := D }
structure LoopAt (W : World) (l D : Nat) (r : Loop) : Prop where
  rec_ : W.heap[l]? = some (.loop r)
  def_ : W.heap[D]? = some (.deferred (some []))
  ne_ : D ≠ l
theorem LoopAt.kept {S : Nat → Prop} {W W' : World} {l D : Nat} {r : Loop} (h : LoopAt W l D r) (hk : Kept S W W') (h1 : ¬ S l) (h2 : ¬ S D) : LoopAt W' l D r :=
  ⟨(hk.block l (Array.getElem?_eq_some_iff.1 h.rec_).1 h1).trans h.rec_, (hk.block D (Array.getElem?_eq_some_iff.1 h.def_).1 h2).trans h.def_, h.ne_⟩
theorem rangeFunc_wide {n : Nat} {P : Program} {g : Operand} {ps : Array Tmp} {assign body : Code} {Q : Exit → Act → World → Prop} {a : Act} {w : World} {gf : FuncId} {lb : Array Value}
    (hg : a.eval g = .func (.func gf) #[] lb) (hinv : ∀ (x : Value) (W : World), (invoke (.fn (.func gf) lb) #[x]).run P W = .ok (.enter gf (#[x] ++ lb)) W)
    (h : ∀ fn r, r = loopRec fn a.tmps ps assign body w.heap.size .ready → CallsIn Fence.wide (n - 1) P gf (#[.func (.yield (w.heap.size + 1)) #[] #[]] ++ lb) ((w.alloc (.deferred (some []))).alloc (.loop r))
      (rangePost Fence.wide n P (w.heap.size + 1) Q { a with defers := { target := .collected w.heap.size, args := #[] } :: a.defers })) :
    (Code.rangeFunc g ps assign body).wpIn Fence.wide n P Q a w := by
  refine wpIn_rangeFunc fun fn _ => ?_
  refine ⟨w.heap.size + 1, [{ target := .collected w.heap.size, args := #[] }], _, { target := .fn (.func gf) lb, args := #[.func (.yield (w.heap.size + 1)) #[] #[]] }, _, gf, _, _, run_enterLoop_outer _ _ _ _ _, ?_, fun _ _ => trivial, hinv _ _, fun h => (by cases h), h fn _ rfl⟩
  simp only [resolve, List.map_toArray, List.map_cons, List.map_nil, hg]
  rfl
theorem LoopAt.new (w : World) (r : Loop) : LoopAt ((w.alloc (.deferred (some []))).alloc (.loop r)) (w.heap.size + 1) w.heap.size r := by
  refine ⟨?_, ?_, by omega⟩
  · have := World.alloc_heap_new (w.alloc (.deferred (some []))) (.loop r)
    rwa [World.size_alloc] at this
  · exact (Below.heap_alloc _ _ _ (by simp)).trans (World.alloc_heap_new w _)
theorem Kept.putObj (W : World) (l : Nat) (o : Obj) : Kept (fun b => b = l) W (W.putObj l o) :=
  ⟨rfl, rfl, rfl, by simp, fun _ _ hn => World.putObj_heap_other hn⟩
theorem LoopAt.lt {W : World} {l D : Nat} {r : Loop} (h : LoopAt W l D r) : l < W.heap.size := (Array.getElem?_eq_some_iff.1 h.rec_).1
theorem LoopAt.put {W : World} {l D : Nat} {r : Loop} (h : LoopAt W l D r) (r' : Loop) : LoopAt (W.putObj l (.loop r')) l D r' :=
  ⟨World.putObj_heap_same h.lt, (World.putObj_heap_other h.ne_).trans h.def_, h.ne_⟩
def busyRec (r : Loop) : Loop := { r with state := .busy }
theorem LoopAt.begin_ {P : Program} {W : World} {l D : Nat} {r : Loop} (h : LoopAt W l D r) (hr : r.state = .ready) : (Instr.beginRound l).run P W = .ok () (W.putObj l (.loop (busyRec r))) :=
  run_beginRound h.rec_ hr
theorem LoopAt.end_ {P : Program} {W : World} {l D : Nat} {r : Loop} (h : LoopAt W l D (busyRec r)) (hr : r.state = .ready) (hp : r.pending = none) : (Instr.endRound l none).run P W = .ok (.bool true) (W.putObj l (.loop r)) := by
  rw [run_endRound none h.rec_]
  cases r
  simp only at hr hp
  subst hr hp
  rfl
def doneRec (r : Loop) (c : Code) : Loop := { r with state := .done, pending := some c }
theorem LoopAt.stop_ {P : Program} {W : World} {l D : Nat} {r : Loop} (c : Code) (h : LoopAt W l D (busyRec r)) : (Instr.endRound l (some c)).run P W = .ok (.bool false) (W.putObj l (.loop (doneRec r c))) := by
  rw [run_endRound (some c) h.rec_]
  rfl
def overRec (r : Loop) : Loop := { r with state := .exhausted }
theorem LoopAt.over_ {P : Program} {W : World} {l D : Nat} {r : Loop} (h : LoopAt W l D r) (hr : r.state = .ready) (hp : r.pending = none) : (Instr.endLoop l).run P W = .ok none (W.putObj l (.loop (overRec r))) :=
  (run_endLoop h.rec_ (by rw [hr]; decide)).trans (congrArg (fun p => Result.ok p (W.putObj l (.loop (overRec r)))) hp)
theorem LoopAt.over_done {P : Program} {W : World} {l D : Nat} {r : Loop} {c : Code} (h : LoopAt W l D (doneRec r c)) : (Instr.endLoop l).run P W = .ok (some c) (W.putObj l (.loop (overRec (doneRec r c)))) := by
  rw [run_endLoop h.rec_ (by simp [doneRec])]
  rfl
theorem addr_add0 (b off k : Nat) : (⟨b, off, none⟩ : Addr).add k = ⟨b, off + k, none⟩ := by unfold Addr.add; split <;> simp_all
theorem slice_from {A : Option Addr} {n c i : Nat} (hi : i < n) (W : World) : (Instr.sliceAt 27 (.slice A n c) (some (.int .i64 ((i : Int) + 1))) none none).run Tryz.prog W = .ok (.slice (if c = i + 1 then A else A.map (·.add (i + 1))) (n - (i + 1)) (c - (i + 1))) W := by
  have t1 : (0 : Int) ≤ (i : Int) + 1 := by omega
  have t2 : (i : Int) + 1 ≤ (n : Int) := by omega
  have t4 : ((i : Int) + 1).toNat = i + 1 := by omega
  simp [go_sem, t1, t2, t4]
theorem Row.from {w : World} {A : Option Addr} {zs : List Int} (h : Row w A zs) (i : Nat) (hi : i < zs.length) {c : Nat} (hc : zs.length ≤ c) : Row w (if c = i + 1 then A else A.map (·.add (i + 1))) (zs.drop (i + 1)) := by
  refine ⟨by rw [List.length_drop]; have := h.len; omega, ?_⟩
  by_cases h1 : i + 1 < zs.length
  · obtain ⟨b, off, rfl, hb, hcc⟩ := h.at_.resolve_left (by omega)
    rw [if_neg (by omega)]
    refine .inr ⟨b, off + (i + 1), by simp [addr_add0], hb, fun j hj => ?_⟩
    rw [List.length_drop] at hj
    rw [Nat.add_assoc, hcc (i + 1 + j) (by omega), List.getElem_drop]
  · exact .inl (by rw [List.length_drop]; omega)
theorem pairs_ok {w : World} (A : Option Addr) (n c : Nat) :
    Calls Tryz.prog 56 #[.slice A n c] w fun e w' => e = .returned (.func (.func 93) #[] #[.pointer (some ⟨w.heap.size, 0, none⟩)]) ∧ w' = w.alloc (.cells #[.slice A n c] 27) := by
  go_enter Tryz.func56, Tryz.ntmps56
  go_wp2
  go_ret
  exact ⟨rfl, rfl⟩
def restL (l : List Int) (i j : Nat) : List (Int × Int) := (((l.drop (i + 1)).drop j).map fun y => (l.getD i 0, y)) ++ pairsL (l.drop (i + 1))
theorem rest_zero {l : List Int} {i : Nat} (h : i < l.length) : restL l i 0 = pairsL (l.drop i) := by
  rw [List.drop_eq_getElem_cons h]
  unfold restL
  rw [List.drop_zero, List.getD_eq_getElem?_getD, List.getElem?_eq_getElem h]
  rfl
theorem rest_end {l : List Int} {i j : Nat} (h : (l.drop (i + 1)).length ≤ j) : restL l i j = pairsL (l.drop (i + 1)) := by
  unfold restL
  rw [List.drop_of_length_le h]
  rfl
theorem rest_step {l : List Int} {i j : Nat} (h : j < (l.drop (i + 1)).length) : restL l i j = (l.getD i 0, (l.drop (i + 1))[j]) :: restL l i (j + 1) := by
  unfold restL
  rw [List.drop_eq_getElem_cons h]
  rfl
theorem rest_at {l M : List Int} {i j : Nat} (hM : l.drop (i + 1) = M) (h : j < M.length) : restL l i j = (l.getD i 0, M[j]) :: restL l i (j + 1) := by
  subst hM
  exact rest_step h
theorem pairs_end {l : List Int} {i : Nat} (h : l.length ≤ i) : pairsL (l.drop i) = [] := by
  rw [List.drop_of_length_le h]
  rfl
set_option maxRecDepth 100000 in
set_option maxHeartbeats 4000000 in
theorem pairs_iter (l b1 : Nat) (L : List Int) (A : Option Addr) (c : Nat) (X : List (Int × Int) → World → Prop) (Z : World → Prop)
    (hc : L.length ≤ c) (hL : L.length ≤ 100000)
    (hXg : ∀ r W, X r W → Row W A L ∧ Blk W b1 27 #[.slice A L.length c])
    (hY : ∀ (p : Int × Int) (r : List (Int × Int)) (W : World), X (p :: r) W →
      ∃ fn tmps assign body, (Instr.yield l #[.int .i64 p.1, .int .i64 p.2]).run Tryz.prog W = .ok (.round l fn tmps assign body) W ∧
        RoundIn Fence.wide 0 Tryz.prog l fn tmps assign body W fun e W' => (e = .returned (.bool true) ∧ X r W') ∨ (e = .returned (.bool false) ∧ Z W'))
    (w : World) (hx0 : X (pairsL L) w) :
    Calls Tryz.prog 93 #[.func (.yield l) #[] #[], .pointer (some ⟨b1, 0, none⟩)] w fun e W' => e = .returned (.tuple #[]) ∧ (X [] W' ∨ Z W') := by
  have HX := zzh hXg
  have HY := zzh hY
  have H0 := zzh hx0
  have hb1 := (hXg _ _ hx0).2
  have c1 := hb1.cell 0
  simp only [zzg, zzi] at c1
  clear hXg hY hx0 hb1
  go_enter Tryz.func93, Tryz.ntmps93
  go_wp2
  go_loopg [9] L.length (fun g v wr => ∃ i : Nat, i + g = L.length ∧ v = .int .i64 i ∧ X (pairsL (L.drop i)) wr)
  case atStart => exact ⟨0, by omega, rfl, H0.out⟩
  case round =>
    obtain ⟨i, hig, rfl, hx⟩ := hrel
    have Hx := zzh hx
    obtain ⟨hrow, hblk⟩ := HX.out _ _ hx
    have HR := zzh hrow
    have c2 := hblk.cell 0
    simp only [zzg, zzi] at c2
    clear hx hblk hrow c1
    cases gk with
    | zero =>
      obtain rfl : i = L.length := by omega
      have d1 : decide ((L.length : Int) < L.length) = false := by simp
      have hx := Hx.out
      rw [pairs_end (Nat.le_refl _)] at hx
      have Hx2 := zzh hx
      clear hx
      go_wp2
      refine bodyPost_end (results_none rfl _ _ _) rfl ⟨rfl, .inl Hx2.out⟩
    | succ gk =>
      have hlt : i < L.length := by omega
      have d1 : decide ((i : Int) < L.length) = true := by simp; omega
      have t1 : (0 : Int) ≤ (i : Int) := by omega
      have t2 : (i : Int) < (L.length : Int) := by omega
      obtain ⟨b, off, hA, hbb, hcell⟩ := HR.out.at_.resolve_left (by omega)
      have y0 := hcell i hlt
      have hgd : L.getD i 0 = L[i] := by rw [List.getD_eq_getElem?_getD, List.getElem?_eq_getElem hlt]; rfl
      have HX1 : Hid (X (restL L i 0) wr) := zzh (by rw [rest_zero hlt]; exact Hx.out)
      have HGD := zzh hgd
      generalize L[i] = x at *
      have HF : Hid (∀ W, Row W A L → Row W (if c = i + 1 then A else A.map (·.add (i + 1))) (L.drop (i + 1))) := zzh (fun W hW => hW.from i hlt hc)
      have hsf := fun W => slice_from (A := A) (c := c) hlt W
      obtain ⟨SA, hSA⟩ : ∃ SA, (if c = i + 1 then A else A.map (·.add (i + 1))) = SA := ⟨_, rfl⟩
      rw [hSA] at HF
      simp only [hSA] at hsf
      have HDL : Hid ((L.drop (i + 1)).length = L.length - (i + 1)) := zzh List.length_drop
      obtain ⟨M, hM⟩ : ∃ M, L.drop (i + 1) = M := ⟨_, rfl⟩
      rw [hM] at HF HDL
      obtain ⟨cr, hcr⟩ : ∃ cr, c - (i + 1) = cr := ⟨_, rfl⟩
      rw [hcr] at hsf
      have hsf2 : ∀ W, (Instr.sliceAt 27 (.slice A L.length c) (some (.int .i64 ((i : Int) + 1))) none none).run Tryz.prog W = .ok (.slice SA M.length cr) W := fun W => by rw [hsf, HDL.out]
      have HM := zzh hM
      have hml : M.length ≤ 100000 := by rw [HDL.out]; omega
      clear hSA hM hsf hcell hgd hcr Hx
      subst hA
      have hw1 : wrap64 ((i : Int) + 1) = (i : Int) + 1 := by unfold wrap64; omega
      have HRM : Hid (∀ j, (h : j < M.length) → restL L i j = (x, M[j]) :: restL L i (j + 1)) := zzh (fun j h => by rw [← HGD.out]; exact rest_at HM.out h)
      have HRE : Hid (restL L i M.length = pairsL (L.drop (i + 1))) := zzh (rest_end (by rw [HM.out]; exact Nat.le_refl _))
      obtain ⟨go, rfl⟩ : ∃ go : Nat, go = gk := ⟨_, rfl⟩
      go_wp2
      go_loopg [19] M.length (fun g v wx => ∃ j : Nat, j + g = M.length ∧ v = .int .i64 j ∧ X (restL L i j) wx)
      case atStart => exact ⟨0, by omega, rfl, HX1.out⟩
      case round =>
        obtain ⟨j, hjg, rfl, hx⟩ := hrel
        have Hx := zzh hx
        obtain ⟨hrow, hblk⟩ := HX.out _ _ hx
        have HR5 := zzh (HF.out _ hrow)
        clear hx hrow hblk c2 y0
        cases gk with
        | zero =>
          obtain rfl : j = M.length := by omega
          have d2 : decide ((M.length : Int) < M.length) = false := by simp
          go_wp2
          go_roundg go
          case measure => omega
          case rel => exact ⟨i + 1, by omega, by go_num, by rw [← HRE.out]; exact Hx.out⟩
        | succ g2 =>
          have hlj : j < M.length := by omega
          have d2 : decide ((j : Int) < M.length) = true := by simp; omega
          have u1 : (0 : Int) ≤ (j : Int) := by omega
          have u2 : (j : Int) < (M.length : Int) := by omega
          obtain ⟨b', off', hA', hbb', hcell'⟩ := HR5.out.at_.resolve_left (by omega)
          subst hA'
          have z0 := hcell' j hlj
          obtain ⟨fn, tmps, assign, body, hyield, hround⟩ := HY.out (x, M[j]) (restL L i (j + 1)) _ (by rw [← HRM.out j hlj]; exact Hx.out)
          have Hround := zzh hround
          clear hcell' hround hbb'
          generalize M[j] = y at *
          dsimp only at hyield
          go_upto_region 6 with (fail)
          refine (wpIn_wide (n := 1)).1 ?_
          gi_wp2
          refine Hround.out.mono ?_
          rintro e W5 (⟨rfl, hx5⟩ | ⟨rfl, hz5⟩)
          · have Hx5 := zzh hx5
            clear hx5
            gi_wp2
            go_wp2
            go_roundg g2
            case measure => omega
            case rel => exact ⟨j + 1, by omega, by go_num, Hx5.out⟩
          · have HZ5 := zzh hz5
            clear hz5
            gi_wp2
            go_wp2
            refine bodyPost_ret (v := .tuple #[]) (results_none rfl _ _ _) rfl ⟨rfl, .inr HZ5.out⟩
def NoOut (Q : Exit → Act → World → Prop) : Exit → Act → World → Prop
  | .outgrown, _, _ => False
  | .panic _, _, _ => False
  | e, a, w => Q e a w
theorem NoOut.normal {Q : Exit → Act → World → Prop} {a : Act} {w : World} (h : Q .normal a w) : NoOut Q .normal a w := h
theorem NoOut.lets {Q : Exit → Act → World → Prop} (h : LetsOut (NoOut Q)) : False := by
  obtain ⟨a, w, h1⟩ := h
  exact h1
theorem listIn_append {F : Fence} {fu : Nat} {P : Program} {w w' : World} {ops : Array Oper} {rest : List Oper} {o : Oper} {a : Act} {Q : Exit → Act → World → Prop} (hgd : o.guard = none) (s x : Operand) (t : TypeId)
    (ho : o.op = .call { callee := .builtin .append, args := #[s, x], argTypes := #[t, t] }) {u v v' : Value} (hs : a.eval s = u) (hx : a.eval x = v)
    (hrun : (Builtin.append_ #[t, t] o.type #[u, v]).run P w = .ok v' w') (h : wpListIn F fu P ops Q rest (a.put o.dst v') w') : wpListIn F fu P ops Q (o :: rest) a w := by
  refine wpListIn_plain hgd fun K hK' => ?_
  unfold Oper.wpIn
  refine ⟨?_, ?_⟩
  · simp [Oper.about, ho, resolve, Target.leads, Sem.run_pure]
  · rw [Oper.semAt_plain F _ _ (by rw [ho]; intro c hc'; cases hc')]
    simp [execOp, ho, resolve, invoke, builtin, hs, hx, hrun, Result.andThen]
    exact hK' _ _ h
section
variable {l n : Nat} {P : Program} {ops : Array Oper} {Q : Exit → Act → World → Prop} {md : Region.Mode}
theorem wpIn_of_wp {o : Oper} (hd : ∀ c, o.op ≠ .defer c) {K K' : Act → World → Prop} (hK : ∀ a w, K a w → K' a w) {a : Act} {w : World} (h : o.wp P a w K (NoOut Q)) : o.wpIn (Fence.wide.inRound l) n P a w K' Q := by
  refine ⟨fun f _ => trivial, ?_⟩
  rw [Oper.semAt_eq _ _ _ hd]
  unfold Oper.wp at h
  generalize (execOp a.eval o).run P w = r at *
  cases r with
  | ok x w' =>
    cases x with
    | enter f args =>
      refine ⟨fun h => by simp [Fence.wide] at h, ?_⟩
      refine CallsIn.mono (F := Fence.wide) (callsIn_wide.2 h) ?_
      intro e w'' he
      cases e with
      | returned v => exact hK _ _ he
      | panicked c => exact (he : False).elim
      | outgrown => exact (NoOut.lets he).elim
    | row row args =>
      refine ⟨fun h => by simp [Fence.wide] at h, ?_⟩
      intro c cs _
      obtain ⟨v, w2, hr, hs⟩ := h c cs
      exact ⟨v, w2, hK _ _ hr, stepsIn_wide.2 hs⟩
    | value v => exact hK _ _ h
    | skip => exact hK _ _ h
    | defer d => exact hK _ _ h
    | _ => exact h.elim
  | halt x w' =>
    cases x <;> exact (h : False).elim
theorem wpOpIn_of_wpOp (hd : ∀ (i : Nat) (o : Oper) c, ops[i]? = some o → o.op ≠ .defer c) {i : Nat} {K K' : Act → World → Prop} (hK : ∀ a w, K a w → K' a w) {a : Act} {w : World} (h : wpOp P ops (NoOut Q) i K a w) : wpOpIn (Fence.wide.inRound l) n P ops Q i K' a w := by
  unfold wpOp at h
  unfold Go.wpOpIn
  cases ho : ops[i]? with
  | none => rw [ho] at h; exact hK _ _ h
  | some o =>
    rw [ho] at h
    simp only at h ⊢
    split
    · rename_i hw
      rw [if_pos hw] at h
      rcases h with h | ⟨_, hl⟩
      · exact wpIn_of_wp (fun c => hd i o c ho) hK h
      · exact (NoOut.lets hl).elim
    · rename_i hw
      rw [if_neg hw] at h
      exact ⟨fun f _ => trivial, hK _ _ h⟩
theorem wpAnyIn_of_wpAny (hd : ∀ (i : Nat) (o : Oper) c, ops[i]? = some o → o.op ≠ .defer c) : ∀ (fuel : Nat) (listed : Array Bool) (a : Act) (w : World), wpAny P md ops (NoOut Q) fuel listed a w → wpAnyIn (Fence.wide.inRound l) n P md ops Q fuel listed a w
  | 0, _, _, _, h => ⟨h.1, h.2⟩
  | fuel + 1, _, _, _, h => ⟨fun h0 => h.1 h0, fun i hi => wpOpIn_of_wpOp hd (fun a' w' => wpAnyIn_of_wpAny hd fuel _ a' w') (h.2 i hi)⟩
def noDefer (ops : Array Oper) : Bool := ops.all fun o => match o.op with
  | .defer _ => false
  | _ => true
theorem noDefer_spec (h : noDefer ops = true) (i : Nat) (o : Oper) (c) (ho : ops[i]? = some o) : o.op ≠ .defer c := by
  intro e
  unfold noDefer at h
  rw [Array.all_eq_true] at h
  obtain ⟨hi, rfl⟩ := Array.getElem?_eq_some_iff.1 ho
  have := h i hi
  rw [e] at this
  cases this
theorem wpIn_region_round {S : World → Prop} {id : Nat} {a : Act} {w : World} (hm : P.follows .mixedOrders = true) (hd : noDefer ops = true) (hS : S w.drew)
    (h : S w.drew → wpAnyH P .any ops (NoOut Q) S ops.size (Array.replicate ops.size false) a w.drew) : (Code.region id ops true).wpIn (Fence.wide.inRound l) n P Q a w :=
  wpIn_region_any hm (wpAnyIn_of_wpAny (noDefer_spec hd) _ _ _ _ (wpAny_of_held _ _ _ _ (h hS)))
end
end Go.Proofs.YtlipnnibagidiaaGreat
namespace Go.Proofs.YtlipnnibagidiaaGreat
open Go.RowKit Go.Lib
attribute [local go_sem] Oper.semAt_some
theorem run_store_func (P : Program) (w : World) (a : Addr) (m : Mode) (f : Fn) (bs cs : Array Value) : (store a (.func f bs cs) m).run P w = stored P w a (.func f bs cs) m := run_store P w a _ m rfl
attribute [local go_sem] run_store_func
theorem cell_putObj {W : World} {l : Nat} {r : Loop} (h : W.heap[l]? = some (.loop r)) (o : Obj) {p : Addr} {v : Value} (hc : W.cell? p = some v) : (W.putObj l o).cell? p = some v := by
  have hne : p.block ≠ l := by
    rintro e
    subst e
    simp [World.cell?, h] at hc
  rw [World.cell?_of_block (w := W) (World.putObj_heap_other hne)]
  exact hc
theorem Row.putObj {W : World} {A : Option Addr} {zs : List Int} (h : Row W A zs) {l : Nat} {r : Loop} (hl : W.heap[l]? = some (.loop r)) (o : Obj) : Row (W.putObj l o) A zs :=
  ⟨h.len, h.at_.imp id fun ⟨b, off, h1, h2, h3⟩ => ⟨b, off, h1, Nat.lt_of_lt_of_le h2 (Kept.putObj W l o).size, fun i hi => cell_putObj hl o (h3 i hi)⟩⟩
theorem NdAt.putObj {W : World} {b o : Nat} {n : Nd} (h : NdAt W b o n) {l : Nat} {r : Loop} (hl : W.heap[l]? = some (.loop r)) (ob : Obj) : NdAt (W.putObj l ob) b o n :=
  ⟨Nat.lt_of_lt_of_le h.lt (Kept.putObj W l ob).size, fun j hj => by
    obtain ⟨v, hv⟩ : ∃ v, (nodeCells n)[j]? = some v := ⟨_, List.getElem?_eq_getElem (show j < (nodeCells n).length from hj)⟩
    rw [hv]
    exact cell_putObj hl ob ((h.cells j hj).trans hv), h.wf⟩
theorem Tab.putObj {W : World} {A : Option Addr} {T : List Nd} (h : Tab W A T) {l : Nat} {r : Loop} (hl : W.heap[l]? = some (.loop r)) (o : Obj) : Tab (W.putObj l o) A T :=
  ⟨h.len, h.at_.imp id fun ⟨b, off, h1, h2, h3⟩ => ⟨b, off, h1, Nat.lt_of_lt_of_le h2 (Kept.putObj W l o).size, fun i hi => (h3 i hi).putObj hl o⟩⟩
theorem pairs_66 {l : List Int} (h : l.length ≤ 12) : (pairsL l).length ≤ 66 := by
  have h1 := pairsL_len l
  have h2 : l.length * (l.length - 1) ≤ 12 * 11 := Nat.mul_le_mul h (by omega)
  omega
theorem lay_keep {W w' : World} {L c c' : Nat} {T T' : List Nd} {most e : Int} {A A' : Option Addr} (hl : LayS W L T most 0 A c) (ht : Tab W A' T') (hc : T'.length ≤ c') (hn : ∀ b, A' = some b → b.block ≠ L)
    (hlay : if e = 0 then LayAt w' L A' T'.length c' most 0 else LayAt w' L A T.length c most e) (hk : Kept (fun b => b = L) W w') : ∃ A c, LayS w' L (keepS T T' e).1 most (keepS T T' e).2 A c := by
  unfold keepS
  by_cases he : e = 0
  · rw [if_pos he] at hlay ⊢
    exact ⟨A', c', hlay, ht.kept1 hk hn, hc, hn⟩
  · rw [if_neg he] at hlay ⊢
    exact ⟨A, c, hlay, hl.tab.kept1 hk hl.ne, hl.cap, hl.ne⟩
theorem fr_ne {W : World} {L c : Nat} {T : List Nd} {most e : Int} {A A' : Option Addr} (hf : Fr A T W A') (hl : LayS W L T most e A c) (hlt : L + 5 < W.heap.size) : ∀ b, A' = some b → b.block ≠ L := fun b e => by
  rcases hf b e with ⟨h, _⟩ | h
  · exact hl.ne b h
  · omega
theorem fr_new {W0 W1 : World} {T : List Nd} {A A' : Option Addr} (hf : Fr A T W1 A') (ht : Tab W0 A T) {g : Nat} (hg : W0.heap.size ≤ g) (hlt : g < W1.heap.size) : ∀ b, A' = some b → b.block ≠ g := fun b e => by
  rcases hf b e with ⟨h, h0⟩ | h
  · have := Tab.lt (h ▸ ht) h0
    omega
  · omega
theorem eq_wf {x y : Int} (hx : In64 x) (hy : In64 y) : NdWf (eqNd x y) := by
  unfold In64 at hx hy
  refine ⟨by show (-128 : Int) ≤ 6 ∧ (6 : Int) ≤ 127; decide, by show (-128 : Int) ≤ 2 ∧ (2 : Int) ≤ 127; decide, fun j => ?_, by show (-9223372036854775808 : Int) ≤ 0 ∧ (0 : Int) ≤ 9223372036854775807; decide, by show (-9223372036854775808 : Int) ≤ 0 ∧ (0 : Int) ≤ 9223372036854775807; decide, by show (-9223372036854775808 : Int) ≤ 0 ∧ (0 : Int) ≤ 9223372036854775807; decide⟩
  unfold Nd.arg eqNd
  dsimp only
  split
  · exact hx
  split
  · exact hy
  · decide
theorem Tab.far {W W' : World} {A : Option Addr} {T : List Nd} (h : Tab W A T) {g : Nat} (hg : ∀ i, W.cell? ⟨g, i + 7, none⟩ = none) (hk : Kept (fun b => b = g) W W') : Tab W' A T := by
  rcases Nat.eq_zero_or_pos T.length with h0 | h0
  · exact ⟨h.len, .inl h0⟩
  · refine h.kept1 hk fun b e => ?_
    obtain ⟨b', off, e', hb, hc⟩ := h.at_.resolve_left (by omega)
    rw [e] at e'
    injection e' with e'
    subst e'
    rintro rfl
    have h7 := (hc 0 h0).cells 7 (by omega)
    rw [show off + 0 * 8 + 7 = off + 7 by omega, hg] at h7
    cases h7
theorem Blk.small {W : World} {g : Nat} {t : TypeId} {v : Value} (h : Blk W g t #[v]) (i : Nat) : W.cell? ⟨g, i + 7, none⟩ = none := by
  rw [h.cell]
  simp
def OrdK (T : List Nd) : Prop := TabOk T → ordB T = true
theorem OrdK.nil : OrdK [] := fun h => by have := h.t0; cases this
theorem putT_ordK {T : List Nd} {n : Nd} {most : Int} (h : OrdK T) (hn : n.op ≠ 11) : OrdK (putT T n most).T := by
  unfold putT
  split
  · rename_i h1
    rw [Bool.and_eq_true] at h1
    have ht := tabB_iff.1 h1.1
    split
    · exact h
    split
    · exact OrdK.nil
    · intro _
      refine ordB_iff.2 fun m hm => ?_
      rcases List.mem_append.1 hm with hm | hm
      · obtain ⟨i, hi, _, hst⟩ := ht.stands hm
        exact (ordN_append hst (by omega)).2 (ordB_iff.1 (h ht) m hm)
      · rw [List.mem_singleton.1 hm]
        exact fun e => absurd e hn
  · exact OrdK.nil
theorem leT_ordK {T : List Nd} {a b c most : Int} (h : OrdK T) : OrdK (leT T a b c most).T := by
  unfold leT
  split
  · exact OrdK.nil
  split
  · exact putT_ordK h (by show (12 : Int) ≠ 11; decide)
  split
  · exact h
  · exact putT_ordK h (by show (1 : Int) ≠ 11; decide)
theorem keepS_ordK {T T' : List Nd} {e : Int} (h : OrdK T) (h' : OrdK T') : OrdK (keepS T T' e).1 := by
  unfold keepS
  split
  · exact h'
  · exact h
theorem diffS_ordK {T : List Nd} {most e x y : Int} (h : OrdK T) : OrdK (diffS T most e x y).1 := by
  unfold diffS
  split
  · exact h
  split
  · exact h
  · exact keepS_ordK h (leT_ordK h)
theorem keepS_len {T T' : List Nd} {e : Int} (h : T'.length ≤ T.length + 1) : (keepS T T' e).1.length ≤ T.length + 1 := by
  unfold keepS
  split
  · exact h
  · exact Nat.le_succ _
theorem diffS_len (T : List Nd) (most e x y : Int) : (diffS T most e x y).1.length ≤ T.length + 1 := by
  unfold diffS
  split
  · exact Nat.le_succ _
  split
  · exact Nat.le_succ _
  · exact keepS_len (leT_len T x y 0 most)
structure SX (w : World) (B L : Nat) (r : Loop) (RA : Option Addr) (R : List Int) (rc : Nat) (T : List Nd) (most e : Int) (W : World) : Prop where
  loop : LoopAt W (L + 5) (L + 4) r
  lay : ∃ A c, LayS W L T most e A c
  m : Blk W (B + 1) 3 #[.int .i64 most]
  t4 : Blk W (B + 2) 33 #[.slice none 0 0]
  t5 : Blk W (B + 3) 38 #[.int .i64 0]
  t7 : Blk W (L + 1) 98 #[.pointer (some ⟨L, 0, none⟩)]
  t8 : Blk W (L + 2) 101 #[.func (.func 55) #[.pointer (some ⟨L, 0, none⟩)] #[]]
  x : Blk W (L + 3) 27 #[.slice RA R.length rc]
  row : Row W RA R
  rlt : ∀ b, RA = some b → 0 < R.length → b.block < L
  le : B + 4 ≤ L
  kept : Below B w W
theorem OwnL.row {w : World} {B : Nat} {A : Option Addr} {n c : Nat} {zs : List Int} (h : OwnL w B (.slice A n c) zs) (hl : zs.length ≤ 100000) : Row w A zs ∧ (∀ b, A = some b → 0 < zs.length → B ≤ b.block ∧ b.block < w.heap.size) ∧ zs.length ≤ c ∧ n = zs.length := by
  rcases Nat.eq_zero_or_pos zs.length with h0 | h0
  · refine ⟨⟨hl, .inl h0⟩, fun b _ hp => by omega, by omega, ?_⟩
    rcases h.2 with ⟨e, _⟩ | ⟨g', cap, cur, e, _⟩
    · injection e with _ e _
      omega
    · injection e with _ e _
  · obtain ⟨g, cap, e, h1, h2, h3⟩ := own_form h h0
    injection e with e1 e2 e3
    subst e1 e2 e3
    refine ⟨⟨hl, .inr ⟨g, 0, rfl, h2, fun k hk => ?_⟩⟩, fun b e _ => by injection e with e; subst e; exact ⟨h1, h2⟩, h3, rfl⟩
    have := h.cells (g := g) rfl k (.int .i64 zs[k]) (by rw [List.getElem?_map, List.getElem?_eq_getElem hk]; rfl)
    rw [addr_add] at this
    rw [Nat.zero_add]
    exact this
theorem SX.new {w w2 : World} {B L c rc : Nat} {A RA : Option Addr} {T : List Nd} {R : List Int} {most : Int} (hB : w.heap.size = B) (hL : w2.heap.size = L) (h : Tab w A T) (hp : 0 < T.length) (hc : T.length ≤ c) (hb : Below B w w2) (hle : B + 4 ≤ L)
    (m : Blk w2 (B + 1) 3 #[.int .i64 most]) (t4 : Blk w2 (B + 2) 33 #[.slice none 0 0]) (t5 : Blk w2 (B + 3) 38 #[.int .i64 0]) (hr : Row w2 RA R) (hrl : ∀ b, RA = some b → 0 < R.length → b.block < L) (r : Loop) :
    SX w B L r RA R rc T most 0 ((((((w2.alloc (.cells #[.slice A T.length c, .int .i64 most, .int .i64 0] 100)).alloc (.cells #[.pointer (some ⟨w2.heap.size, 0, none⟩)] 98)).alloc (.cells #[.func (.func 55) #[.pointer (some ⟨w2.heap.size, 0, none⟩)] #[]] 101)).alloc (.cells #[.slice RA R.length rc] 27)).alloc (.deferred (some []))).alloc (.loop r)) := by
  have hbb : Below w2.heap.size w2 ((((((w2.alloc (.cells #[.slice A T.length c, .int .i64 most, .int .i64 0] 100)).alloc (.cells #[.pointer (some ⟨w2.heap.size, 0, none⟩)] 98)).alloc (.cells #[.func (.func 55) #[.pointer (some ⟨w2.heap.size, 0, none⟩)] #[]] 101)).alloc (.cells #[.slice RA R.length rc] 27)).alloc (.deferred (some []))).alloc (.loop r)) :=
    ((((((Below.refl _ w2).alloc (Nat.le_refl _) _).alloc (by simp) _).alloc (by simp; omega) _).alloc (by simp; omega) _).alloc (by simp; omega) _).alloc (by simp; omega) _
  have hall : Below B w w2 := hb
  have hl := LoopAt.new ((((w2.alloc (.cells #[.slice A T.length c, .int .i64 most, .int .i64 0] 100)).alloc (.cells #[.pointer (some ⟨w2.heap.size, 0, none⟩)] 98)).alloc (.cells #[.func (.func 55) #[.pointer (some ⟨w2.heap.size, 0, none⟩)] #[]] 101)).alloc (.cells #[.slice RA R.length rc] 27)) r
  have e4 : ((((w2.alloc (.cells #[.slice A T.length c, .int .i64 most, .int .i64 0] 100)).alloc (.cells #[.pointer (some ⟨w2.heap.size, 0, none⟩)] 98)).alloc (.cells #[.func (.func 55) #[.pointer (some ⟨w2.heap.size, 0, none⟩)] #[]] 101)).alloc (.cells #[.slice RA R.length rc] 27)).heap.size = w2.heap.size + 4 := by simp
  rw [e4] at hl
  subst hL
  refine ⟨hl, ⟨A, c, ⟨⟨((((Blk.new w2 _ _).alloc _).alloc _).alloc _).alloc _ |>.alloc _⟩, (h.below (hB ▸ hb)).below hbb, hc, fun b e => ?_⟩⟩, m.below hbb (by omega), t4.below hbb (by omega), t5.below hbb (by omega), ?_, ?_, ?_, hr.below hbb, hrl, hle, hall.trans (hbb.mono hall.size |>.mono (by omega))⟩
  · have := Tab.lt (e ▸ h) hp
    omega
  · exact ((((Blk.new_at (by simp) _ _).alloc _).alloc _).alloc _).alloc _
  · exact (((Blk.new_at (by simp) _ _).alloc _).alloc _).alloc _
  · exact ((Blk.new_at (by simp) _ _).alloc _).alloc _
theorem LayS.below {W W' : World} {L : Nat} {T : List Nd} {most e : Int} {A : Option Addr} {c : Nat} (h : LayS W L T most e A c) (hb : Below W.heap.size W W') : LayS W' L T most e A c :=
  ⟨⟨h.lay.blk.below hb h.lay.blk.lt⟩, h.tab.below hb, h.cap, h.ne⟩
section
variable {w W W' : World} {B L : Nat} {r : Loop} {RA : Option Addr} {R : List Int} {rc : Nat} {T : List Nd} {most e : Int}
theorem SX.step (h : SX w B L r RA R rc T most e W) (hk : Kept (fun b => b = L) W W') {T' : List Nd} {e' : Int} (hl : ∃ A c, LayS W' L T' most e' A c) : SX w B L r RA R rc T' most e' W' := by
  have hlt := h.loop.lt
  have := h.le
  refine ⟨h.loop.kept hk (by omega) (by omega), hl, h.m.kept hk (by omega), h.t4.kept hk (by omega), h.t5.kept hk (by omega), h.t7.kept hk (by omega), h.t8.kept hk (by omega), h.x.kept hk (by omega), ?_, h.rlt, h.le, h.kept.trans (hk.below (by omega) (fun k e => by omega))⟩
  refine ⟨h.row.len, ?_⟩
  rcases Nat.eq_zero_or_pos R.length with h0 | h0
  · exact .inl h0
  · obtain ⟨b, off, h1, h2, h3⟩ := h.row.at_.resolve_left (by omega)
    refine .inr ⟨b, off, h1, Nat.lt_of_lt_of_le h2 hk.size, fun i hi => ?_⟩
    have hb : W'.heap[b]? = W.heap[b]? := hk.block b h2 (by have := h.rlt _ h1 h0; simp at this; omega)
    rw [show W'.cell? ⟨b, off + i, none⟩ = W.cell? ⟨b, off + i, none⟩ by unfold World.cell?; rw [hb]]
    exact h3 i hi
theorem SX.below (h : SX w B L r RA R rc T most e W) (hb : Below W.heap.size W W') : SX w B L r RA R rc T most e W' :=
  h.step (Kept.of_below hb) (by obtain ⟨A, c, hl⟩ := h.lay; exact ⟨A, c, hl.below hb⟩)
theorem SX.put (h : SX w B L r RA R rc T most e W) (r' : Loop) : SX w B L r' RA R rc T most e (W.putObj (L + 5) (.loop r')) := by
  have hlt := h.loop.lt
  have := h.le
  have hk := Kept.putObj W (L + 5) (.loop r')
  obtain ⟨A, c, hl⟩ := h.lay
  exact ⟨h.loop.put r', ⟨A, c, ⟨⟨hl.lay.blk.kept hk (by omega)⟩, hl.tab.putObj h.loop.rec_ _, hl.cap, hl.ne⟩⟩, h.m.kept hk (by omega), h.t4.kept hk (by omega), h.t5.kept hk (by omega), h.t7.kept hk (by omega), h.t8.kept hk (by omega), h.x.kept hk (by omega), h.row.putObj h.loop.rec_ _, h.rlt, h.le, h.kept.trans (hk.below (by omega) (fun k e => by omega))⟩
theorem SX.held (h : SX w B L r RA R rc T most e W) {A : Option Addr} {c : Nat} (hl : LayS W L T most e A c) : W.cell? ⟨L + 1, 0, none⟩ = some (.pointer (some ⟨L, 0, none⟩)) ∧ W.cell? ⟨L, 0, none⟩ = some (.slice A T.length c) ∧ W.cell? ⟨B + 1, 0, none⟩ = some (.int .i64 most) := by
  have s0 := h.t7.cell 0
  have s1 := hl.lay.blk.cell 0
  have s2 := h.m.cell 0
  simp only [zzg, zzi] at s0 s1 s2
  exact ⟨s0, s1, s2⟩
end
def XI (w : World) (B L : Nat) (r : Loop) (RA : Option Addr) (R : List Int) (rc : Nat) (T : List Nd) (ps : List (Int × Int)) (most : Int) (rest : List (Int × Int)) (W : World) : Prop :=
  ∃ Tk, SX w B L r RA R rc Tk most 0 W ∧ layAllS ps T most = layAllS rest Tk most ∧ OrdK Tk ∧ Tk.length + 3 * rest.length ≤ T.length + 3 * ps.length ∧ ∀ p ∈ rest, In64 p.1 ∧ In64 p.2
def ZI (w : World) (B L : Nat) (r : Loop) (T : List Nd) (ps : List (Int × Int)) (most : Int) (W : World) : Prop :=
  ∃ e, layAllS ps T most = ([], e) ∧ LoopAt W (L + 5) (L + 4) (doneRec r .ret) ∧ Blk W (B + 2) 33 #[.slice none 0 0] ∧ Blk W (B + 3) 38 #[.int .i64 e] ∧ Below B w W ∧ B + 4 ≤ L
def ShIs (r : LayR) (w : World) (e : Ending) (w' : World) : Prop :=
  ∃ A' c, e = .returned (.tuple #[.agg #[.slice A' r.T.length c], .int .i64 r.e]) ∧ Tab w' A' r.T ∧ r.T.length ≤ c ∧ Below w.heap.size w w'
set_option maxRecDepth 100000 in
set_option maxHeartbeats 4000000 in
theorem sput_ok {T : List Nd} {w : World} {A : Option Addr} (c : Nat) (most : Int) (hc : T.length ≤ c) (h : Tab w A T) (hl : T.length ≤ 10000) :
    Calls Tryz.prog 25 #[.agg #[.slice A T.length c], .int .i64 most] w (ShIs (putS T most) w) := by
  have HC := zzh hc
  have HLT := zzh hl
  have H := zzh h
  obtain ⟨w0, hw0⟩ : ∃ w0, (((w.alloc (.cells #[.slice A T.length c] 33)).alloc (.cells #[.int .i64 most] 3)).alloc (.cells #[.slice none 0 0] 33)).alloc (.cells #[.int .i64 0] 38) = w0 := ⟨_, rfl⟩
  have HS0 : Hid (w0.heap.size = w.heap.size + 4) := zzh (by rw [← hw0]; simp)
  have HB0 : Hid (Below w.heap.size w w0) := zzh (by rw [← hw0]; exact ((((Below.refl _ w).alloc (Nat.le_refl _) _).alloc (by simp) _).alloc (by simp; omega) _).alloc (by simp; omega) _)
  have HT0 : Hid (Blk w0 w.heap.size 33 #[.slice A T.length c]) := zzh (by rw [← hw0]; exact (((Blk.new w _ _).alloc _).alloc _).alloc _)
  have HM0 : Hid (Blk w0 (w.heap.size + 1) 3 #[.int .i64 most]) := zzh (by rw [← hw0]; exact ((Blk.new_at (by simp) _ _).alloc _).alloc _)
  have HR0 : Hid (Blk w0 (w.heap.size + 1 + 1) 33 #[.slice none 0 0]) := zzh (by rw [← hw0]; exact (Blk.new_at (by simp) _ _).alloc _)
  have HE0 : Hid (Blk w0 (w.heap.size + 1 + 1 + 1) 38 #[.int .i64 0]) := zzh (by rw [← hw0]; exact Blk.new_at (by simp) _ _)
  have a0 := HT0.out.cell 0
  simp only [zzg, zzi] at a0
  clear hc h hl
  refine callsIn_wide.1 (callsIn_of_wp_marks (n := 2) Tryz.func25 rfl trivial (wpIn_wide.2 ?_) rfl)
  simp only [Tryz.ntmps25, List.size_toArray, List.length_cons, List.length_nil, Nat.reduceAdd, Nat.reduceSub, Array.replicate_succ, Array.replicate_zero, List.push_toArray, List.append_toArray, List.nil_append, List.cons_append]
  go_wp2_with fail
  refine (score_ok c HC.out (H.out.below HB0.out)).mono ?_
  rintro e w1 ⟨rfl, hb1⟩
  have HB1 := zzh (HB0.out.trans (hb1.mono HB0.out.size))
  have HT1 := zzh (HT0.out.below hb1 HT0.out.lt)
  have HM1 := zzh (HM0.out.below hb1 HM0.out.lt)
  have HR1 := zzh (HR0.out.below hb1 HR0.out.lt)
  have HE1 := zzh (HE0.out.below hb1 HE0.out.lt)
  have HSZ1 : Hid (w.heap.size + 4 ≤ w1.heap.size) := zzh (by rw [← HS0.out]; exact hb1.size)
  have a1 := HT1.out.cell 0
  have f4 := HR1.out.frozen 0
  have f5 := HE1.out.frozen 0
  have b4 := HR1.out.cell 0
  have b5 := HE1.out.cell 0
  simp only [zzg, zzi] at a1 b4 b5
  clear hb1 a0 hw0
  have HG : Hid (putS T most = if coreB T then (if 12 < (nodesT T).length then ⟨[], 40⟩ else laysT (pairsL (nodesT T)) T most) else ⟨[], 2⟩) := zzh rfl
  generalize hcb : coreB T = cb at *
  cases cb with
  | false =>
    have HE2 := zzh (HE1.out.far (p := ⟨w.heap.size + 1 + 1, 0, none⟩) (by simp) (.slice none 0 0))
    have HP : Hid (putS T most = ⟨[], 2⟩) := zzh (by rw [HG.out, if_neg (by simp)])
    clear hcb
    go_wp2
    have x4 := ((HR1.out.set_ 0 (.slice none 0 0)).far (p := ⟨w.heap.size + 1 + 1 + 1, 0, none⟩) (by simp) (.int .i64 2)).cell 0
    have x5 := (HE2.out.set_ 0 (.int .i64 2)).cell 0
    simp only [zzg, zzi, zza, zzb] at x4 x5
    refine ⟨.tuple #[.agg #[.slice none 0 0], .int .i64 2], by simp [results, Tryz.results25, go_sem, x4, x5], ?_⟩
    rw [HP.out]
    exact ⟨none, 0, rfl, ⟨by simp, .inl rfl⟩, Nat.le_refl _, (HB1.out.setCell (by simp; omega) _).setCell (by simp; omega) _⟩
  | true =>
    have HCT := zzh (coreB_iff.1 hcb)
    clear hcb
    go_wp2_with fail
    refine (nodes_ok c (H.out.below HB1.out) HCT.out.ok).mono ?_
    rintro e w2 ⟨v, rfl, hv, hb2⟩
    obtain ⟨RA, rc, rfl⟩ := own_slice hv
    have HB2 := zzh (HB1.out.trans (hb2.mono HB1.out.size))
    have HT2 := zzh (HT1.out.below hb2 HT1.out.lt)
    have HM2 := zzh (HM1.out.below hb2 HM1.out.lt)
    have HR2 := zzh (HR1.out.below hb2 HR1.out.lt)
    have HE2 := zzh (HE1.out.below hb2 HE1.out.lt)
    have HSZ2 : Hid (w.heap.size + 4 ≤ w2.heap.size) := zzh (by have := HSZ1.out; have := hb2.size; omega)
    have HV := zzh hv
    have a2 := HT2.out.cell 0
    have m2 := HM2.out.cell 0
    have f42 := HR2.out.frozen 0
    have f42 := HR2.out.frozen 0
    have f52 := HE2.out.frozen 0
    have b42 := HR2.out.cell 0
    have b52 := HE2.out.cell 0
    simp only [zzg, zzi] at a2 m2 b42 b52
    clear hb2 hv a1 f4 f5 b4 b5
    by_cases hn : 12 < (nodesT T).length
    · have HP : Hid (putS T most = ⟨[], 40⟩) := zzh (by rw [HG.out, if_pos trivial, if_pos hn])
      have d1 : decide (12 < (nodesT T).length) = true := by simpa using hn
      have d2 : decide ((12 : Int) < ((nodesT T).length : Int)) = true := by simp; omega
      have HE3 := zzh (HE2.out.far (p := ⟨w.heap.size + 1 + 1, 0, none⟩) (by simp) (.slice none 0 0))
      clear hn
      go_wp2
      have x4 := ((HR2.out.set_ 0 (.slice none 0 0)).far (p := ⟨w.heap.size + 1 + 1 + 1, 0, none⟩) (by simp) (.int .i64 40)).cell 0
      have x5 := (HE3.out.set_ 0 (.int .i64 40)).cell 0
      simp only [zzg, zzi, zza, zzb] at x4 x5
      refine ⟨.tuple #[.agg #[.slice none 0 0], .int .i64 40], by simp [results, Tryz.results25, go_sem, x4, x5], ?_⟩
      rw [HP.out]
      exact ⟨none, 0, rfl, ⟨by simp, .inl rfl⟩, Nat.le_refl _, (HB2.out.setCell (by simp; omega) _).setCell (by simp; omega) _⟩
    have HP : Hid (putS T most = laysT (pairsL (nodesT T)) T most) := zzh (by rw [HG.out, if_pos trivial, if_neg hn])
    have d1 : decide (12 < (nodesT T).length) = false := by simp; omega
    have d2 : decide ((12 : Int) < ((nodesT T).length : Int)) = false := by simp; omega
    have HN := zzh hn
    have HNL : Hid ((nodesT T).length ≤ 100000) := zzh (by omega)
    have HPL : Hid ((pairsL (nodesT T)).length ≤ 66) := zzh (pairs_66 (by omega))
    have HOrd : Hid (ordB T = true) := zzh (ordB_iff.2 HCT.out.ord)
    have HIn : Hid (∀ p ∈ pairsL (nodesT T), In64 p.1 ∧ In64 p.2) := zzh (fun p hp => by obtain ⟨h1, h2, _⟩ := nodes_pairs hp; have := h1.lo; have := h1.hi; have := h2.lo; have := h2.hi; have := HLT.out; unfold In64; omega)
    clear hn
    go_wp2_with (go_at_call 56; refine (pairs_ok _ _ _).mono ?_; rintro e w3 ⟨rfl, rfl⟩)
    obtain ⟨B, hB⟩ : ∃ B, w.heap.size = B := ⟨_, rfl⟩
    have HBs := zzh hB
    obtain ⟨L, hL⟩ : ∃ L, w2.heap.size = L := ⟨_, rfl⟩
    have HLs := zzh hL
    have hG0 : ∀ r, SX w B L r RA (nodesT T) rc T most 0 ((((((w2.alloc (.cells #[.slice A T.length c, .int .i64 most, .int .i64 0] 100)).alloc (.cells #[.pointer (some ⟨w2.heap.size, 0, none⟩)] 98)).alloc (.cells #[.func (.func 55) #[.pointer (some ⟨w2.heap.size, 0, none⟩)] #[]] 101)).alloc (.cells #[.slice RA (nodesT T).length rc] 27)).alloc (.deferred (some []))).alloc (.loop r)) := by
      intro r
      have hrw := OwnL.row HV.out (by unfold nodesT; rw [List.length_map]; have := List.length_filter_le (sharedB T) (List.range T.length); rw [List.length_range] at this; have := HLT.out; omega)
      subst hB
      have hS := HSZ2.out
      exact SX.new rfl hL H.out (by have := HCT.out.ok.len; omega) HC.out HB2.out (by omega) HM2.out HR2.out HE2.out hrw.1 (fun b e hp => by rw [← hL]; exact (hrw.2.1 b e hp).2) r
    obtain ⟨W3, hW3⟩ : ∃ W3, (((w2.alloc (.cells #[.slice A T.length c, .int .i64 most, .int .i64 0] 100)).alloc (.cells #[.pointer (some ⟨w2.heap.size, 0, none⟩)] 98)).alloc (.cells #[.func (.func 55) #[.pointer (some ⟨w2.heap.size, 0, none⟩)] #[]] 101)).alloc (.cells #[.slice RA (nodesT T).length rc] 27) = W3 := ⟨_, rfl⟩
    have hs3 : W3.heap.size = L + 4 := by rw [← hW3]; simp [hL]
    simp only [hW3] at hG0 ⊢
    clear hW3
    rw [hB, hL]
    refine wpIn_wide.1 (rangeFunc_wide (n := 2) (gf := 93) rfl (fun _ _ => by simp [invoke, go_sem]) fun fn r hr => ?_)
    rw [hs3]
    have hx0 := hG0 r
    clear hG0
    refine callsIn_wide.2 ((pairs_iter (L + 4 + 1) (L + 3) (nodesT T) RA rc
      (XI w B L r RA (nodesT T) rc T (pairsL (nodesT T)) most)
      (ZI w B L r T (pairsL (nodesT T)) most) ?_ ?_ ?_ ?_ _ ?_).mono ?_)
    · exact (OwnL.row HV.out HNL.out).2.2.1
    · exact HNL.out
    · rintro r0 W ⟨Tk, hsx, _⟩
      exact ⟨hsx.row, hsx.x⟩
    · rintro ⟨x, y⟩ rest W hx
      have e1 := congrArg Loop.tmps hr
      have e2 := congrArg Loop.params hr
      have e3 := congrArg Loop.assign hr
      have e4 := congrArg Loop.body hr
      have e5 := congrArg Loop.state hr
      have e6 := congrArg Loop.pending hr
      simp only [loopRec] at e1 e2 e3 e4 e5 e6
      obtain ⟨Tk, hsx, hlay, hord, hlen, hin⟩ := hx
      refine ⟨_, _, _, _, run_yield hsx.loop.rec_ (by rw [e2]; rfl), ?_⟩
      rw [e1, e2, e3, e4]
      clear e1 e2 e3 e4 hr
      refine roundIn_of_wpIn trivial ?_
      simp only [List.zip_toArray, List.zip_cons_cons, List.zip_nil_right, List.foldl_toArray', List.foldl_cons, List.foldl_nil, zza, zzc, zzb]
      have hbr := zzh (hsx.loop.begin_ (P := Tryz.prog) e5)
      have hx2 := hsx.put (busyRec r)
      generalize W.putObj (L + 5) (.loop (busyRec r)) = W2 at *
      obtain ⟨A2, c2, hls⟩ := hx2.lay
      have HX0 : Hid (SX w B L (busyRec r) RA (nodesT T) rc Tk most 0 W2.drew) := zzh (hx2.below (below_drewN (Below.refl W2.heap.size W2) 1))
      have HBk0 : Hid (Below W2.drew.heap.size W2.drew W2.drew) := zzh (Below.refl _ _)
      have HL0 : Hid (LayS W2.drew L Tk most 0 A2 c2) := zzh (hls.below (below_drewN (Below.refl W2.heap.size W2) 1))
      have hheld := HX0.out.held HL0.out
      have hxy := hin (x, y) (by simp)
      have HWF : Hid (NdWf (eqNd x y)) := zzh (eq_wf hxy.1 hxy.2)
      have HLN : Hid (Tk.length < 100000) := zzh (by have h1 := hlen; have := HPL.out; have := HLT.out; rw [List.length_cons] at h1; omega)
      have HLN2 : Hid (Tk.length ≤ 20000) := zzh (by have h1 := hlen; have := HPL.out; have := HLT.out; rw [List.length_cons] at h1; omega)
      have K8 := zzh (fun (W : World) (hl : LayS W L Tk most 0 A2 c2) => tput_ok c2 (eqNd x y) HWF.out most hl.cap hl.tab HLN.out)
      have HTL := zzh (putT_len Tk (eqNd x y) most)
      have HTO := zzh (putT_ordK (n := eqNd x y) (most := most) hord (by show (6 : Int) ≠ 11; decide))
      have HLS1 : Hid (lay1S Tk most x y = diffS (diffS (keepS Tk (putT Tk (eqNd x y) most).T (putT Tk (eqNd x y) most).e).1 most (keepS Tk (putT Tk (eqNd x y) most).T (putT Tk (eqNd x y) most).e).2 x y).1 most (diffS (keepS Tk (putT Tk (eqNd x y) most).T (putT Tk (eqNd x y) most).e).1 most (keepS Tk (putT Tk (eqNd x y) most).T (putT Tk (eqNd x y) most).e).2 x y).2 y x) := zzh rfl
      obtain ⟨pr, hpr⟩ : ∃ pr, putT Tk (eqNd x y) most = pr := ⟨_, rfl⟩
      rw [hpr] at K8 HTL HTO HLS1
      clear hpr
      obtain ⟨T', id', e'⟩ := pr
      have HX2 := zzh hx2
      have HLS := zzh hls
      have HLA := zzh hlay
      have HOR := zzh hord
      have HLE := zzh hlen
      have HI2 := zzh hin
      have HXY := zzh hxy
      clear hx2 hls hlay hord hlen hin hsx hx0 hxy
      gi_wp2
      refine ⟨W2, hbr.out, ?_⟩
      gi_wp2
      refine wpIn_region_round (S := fun W' => W'.cell? ⟨L + 1, 0, none⟩ = some (.pointer (some ⟨L, 0, none⟩)) ∧ W'.cell? ⟨L, 0, none⟩ = some (.slice A2 Tk.length c2) ∧ W'.cell? ⟨B + 1, 0, none⟩ = some (.int .i64 most)) (by kernel_rfl) (by kernel_rfl) hheld (fun hHeld => ?_)
      refine wpAnyH_take (i := 0) (v := .pointer (some ⟨L, 0, none⟩)) rfl (by kernel_rfl) (by kernel_rfl) (by kernel_rfl) (fun _ _ _ h => h) (Or.inl ⟨by rfl, fun wS hSw => ?_⟩) (by assumption) ?_
      · (obtain ⟨z0, z1, z2⟩ := hSw; go_simp)
      try simp only [Act.put, zza]
      refine wpAnyH_take (i := 1) (v := .pointer (some ⟨L, 0, none⟩)) rfl (by kernel_rfl) (by kernel_rfl) (by kernel_rfl) (fun _ _ _ h => h) (Or.inl ⟨by rfl, fun wS hSw => ?_⟩) (by assumption) ?_
      · go_simp
      try simp only [Act.put]
      refine wpAnyH_take (i := 2) (v := .pointer (some ⟨L, 0, none⟩)) rfl (by kernel_rfl) (by kernel_rfl) (by kernel_rfl) (fun _ _ _ h => h) (Or.inl ⟨by rfl, fun wS hSw => ?_⟩) (by assumption) ?_
      · go_simp
      try simp only [Act.put]
      refine wpAnyH_take (i := 3) (v := .agg #[.slice A2 Tk.length c2]) rfl (by kernel_rfl) (by kernel_rfl) (by kernel_rfl) (fun _ _ _ h => h) (Or.inl ⟨by rfl, fun wS hSw => ?_⟩) (by assumption) ?_
      · (obtain ⟨z0, z1, z2⟩ := hSw; go_simp)
      try simp only [Act.put]
      refine wpAnyH_take (i := 4) (v := .int .i64 x) rfl (by kernel_rfl) (by kernel_rfl) (by kernel_rfl) (fun _ _ _ h => h) (Or.inl ⟨by rfl, fun wS hSw => ?_⟩) (by assumption) ?_
      · go_simp
      try simp only [Act.put]
      refine wpAnyH_take (i := 5) (v := .int .i64 y) rfl (by kernel_rfl) (by kernel_rfl) (by kernel_rfl) (fun _ _ _ h => h) (Or.inl ⟨by rfl, fun wS hSw => ?_⟩) (by assumption) ?_
      · go_simp
      try simp only [Act.put]
      refine wpAnyH_take (i := 7) (v := .int .i64 most) rfl (by kernel_rfl) (by kernel_rfl) (by kernel_rfl) (fun _ _ _ h => h) (Or.inl ⟨by rfl, fun wS hSw => ?_⟩) (by assumption) ?_
      · (obtain ⟨z0, z1, z2⟩ := hSw; go_simp)
      try simp only [Act.put]
      refine wpAnyH_ready (rs := [6, 13]) (by kernel_rfl) (by simp) ?_
      refine AllReadyH.cons rfl (fun K hK => ?_) (AllReadyH.cons rfl (fun K hK => ?_) AllReadyH.nil)
      · go_simp
        go_loud (refine (equality_ok _ x y).mono ?_)
        rintro e w10 ⟨rfl, hb⟩
        have HBk1 := zzh (HBk0.out.trans (hb.mono HBk0.out.size))
        have HX1 := zzh (HX0.out.below HBk1.out)
        have HL1 := zzh (HL0.out.below HBk1.out)
        clear hb
        refine hK.out _ _ ?_ (fun hHeld => ?_)
        · exact HX1.out.held HL1.out
        clear hK K
        refine wpAnyH_ready (rs := [8, 13]) (by kernel_rfl) (by simp) ?_
        refine AllReadyH.cons rfl (fun K hK => ?_) (AllReadyH.cons rfl (fun K hK => ?_) AllReadyH.nil)
        · go_simp
          go_loud (refine (K8.out _ HL1.out).mono ?_)
          rintro e w20 ⟨A3, c3, rfl, htb, hcb, hfr, hb⟩
          have HBk2 := zzh (HBk1.out.trans (hb.mono HBk1.out.size))
          have HX2 := zzh (HX0.out.below HBk2.out)
          have HL2 := zzh (HL0.out.below HBk2.out)
          have HTB := zzh htb
          have HCB := zzh hcb
          have HNL : Hid (∀ b, A3 = some b → b.block ≠ L) := zzh (fr_ne hfr HL1.out HX1.out.loop.lt)
          clear hb htb hcb hfr
          refine hK.out _ _ ?_ (fun hHeld => ?_)
          · exact HX2.out.held HL2.out
          clear hK K
          refine wpAnyH_take (i := 9) (v := .tuple #[.agg #[.slice A3 T'.length c3], .int .i64 id', .int .i64 e']) rfl (by kernel_rfl) (by kernel_rfl) (by kernel_rfl) (fun _ _ _ h => h) (Or.inl ⟨by rfl, fun wS hSw => ?_⟩) (by assumption) ?_
          · go_simp
          try simp only [Act.put, zza]
          refine wpAnyH_take (i := 10) (v := .agg #[.slice A3 T'.length c3]) rfl (by kernel_rfl) (by kernel_rfl) (by kernel_rfl) (fun _ _ _ h => h) (Or.inl ⟨by rfl, fun wS hSw => ?_⟩) (by assumption) ?_
          · go_simp
          try simp only [Act.put]
          refine wpAnyH_take (i := 11) (v := .int .i64 id') rfl (by kernel_rfl) (by kernel_rfl) (by kernel_rfl) (fun _ _ _ h => h) (Or.inl ⟨by rfl, fun wS hSw => ?_⟩) (by assumption) ?_
          · go_simp
          try simp only [Act.put]
          refine wpAnyH_take (i := 12) (v := .int .i64 e') rfl (by kernel_rfl) (by kernel_rfl) (by kernel_rfl) (fun _ _ _ h => h) (Or.inl ⟨by rfl, fun wS hSw => ?_⟩) (by assumption) ?_
          · go_simp
          try simp only [Act.put]
          refine wpAnyH_ready (rs := [13]) (by kernel_rfl) (by simp) ?_
          refine AllReadyH.cons rfl (fun K hK => ?_) AllReadyH.nil
          go_simp
          have HLP := zzh HL2.out
          have HBk3 := zzh (HBk2.out.alloc HBk2.out.size (.cells #[.slice none 0 0] 33))
          have HX3 := zzh (HX0.out.below HBk3.out)
          have HL3 := zzh (HL0.out.below HBk3.out)
          have HT3 := zzh (Blk.new w20 33 #[.slice none 0 0])
          have HGE : Hid (W2.heap.size ≤ w20.heap.size) := zzh HBk2.out.size
          refine hK.out _ _ ?_ (fun hHeld => ?_)
          · exact HX3.out.held HL3.out
          clear hK K
          refine wpAnyH_ready (rs := [14]) (by kernel_rfl) (by simp) ?_
          refine AllReadyH.cons rfl (fun K hK => ?_) AllReadyH.nil
          go_simp
          have HBk4 := zzh (HBk2.out.alloc HBk2.out.size (.cells #[.slice A3 T'.length c3] 33))
          have HX4 := zzh (HX0.out.below HBk4.out)
          have HL4 := zzh (HL0.out.below HBk4.out)
          have HT4 := zzh (Blk.new w20 33 #[.slice A3 T'.length c3])
          refine hK.out _ _ ?_ (fun hHeld => ?_)
          · exact HX4.out.held HL4.out
          clear hK K
          refine wpAnyH_take (i := 15) (v := .int .i64 id') rfl (by kernel_rfl) (by kernel_rfl) (by kernel_rfl) (fun _ _ _ h => h) (Or.inl ⟨by rfl, fun wS hSw => ?_⟩) (by assumption) ?_
          · go_simp
          try simp only [Act.put, zza]
          refine wpAnyH_take (i := 16) (v := .int .i64 e') rfl (by kernel_rfl) (by kernel_rfl) (by kernel_rfl) (fun _ _ _ h => h) (Or.inl ⟨by rfl, fun wS hSw => ?_⟩) (by assumption) ?_
          · go_simp
          try simp only [Act.put]
          refine wpAnyH_done (by kernel_rfl) ?_ _
          refine NoOut.normal ?_
          have HTF : Hid (Blk (w20.alloc (.cells #[.slice A3 T'.length c3] 33)) w20.heap.size 33 #[.slice A3 T'.length c3]) := zzh HT4.out
          have HTBF : Hid (Tab (w20.alloc (.cells #[.slice A3 T'.length c3] 33)) A3 T') := zzh (HTB.out.alloc _)
          have HXF : Hid (SX w B L (busyRec r) RA (nodesT T) rc Tk most 0 (w20.alloc (.cells #[.slice A3 T'.length c3] 33))) := zzh HX4.out
          have HLF : Hid (LayS (w20.alloc (.cells #[.slice A3 T'.length c3] 33)) L Tk most 0 A2 c2) := zzh HL4.out
          clear HX1 HX2 HX3 HX4 HL1 HL2 HL3 HL4 HBk1 HBk2 HBk3 HBk4 HT3 HT4 HTB HGE HLP
          generalize w20.alloc (.cells #[.slice A3 T'.length c3] 33) = W5 at *
          generalize w20.heap.size = G at *
          have x7 := HXF.out.t7.cell 0
          have xT := HTF.out.cell 0
          simp only [zzg, zzi] at x7 xT
          gi_wp2
          refine ⟨trivial, rfl, CallsIn.mono (F := Fence.wide) ((callsIn_wide (n := 0)).2 (keep_ok HLF.out.lay A3 T'.length c3 e')) ?_⟩
          rintro e w6 ⟨rfl, hlay, hk⟩
          have hl6 := lay_keep HLF.out HTBF.out HCB.out HNL.out hlay hk
          have hx6 := HXF.out.step hk hl6
          have HO1 := zzh (keepS_ordK (e := e') HOR.out HTO.out)
          have HN1 := zzh (keepS_len (e := e') HTL.out)
          clear hl6 hlay hk x7 xT HTF HTBF HXF HLF
          generalize keepS Tk T' e' = s1 at *
          obtain ⟨T1, f1⟩ := s1
          dsimp only at HO1 HN1 HLS1 hx6
          obtain ⟨A6, c6, hl6⟩ := hx6.lay
          have KD := (callsIn_wide (n := 0)).2 (ldiff_ok hl6 (show T1.length < 100000 by have := HN1.out; have := HLN2.out; omega) HO1.out x y HXY.out.1 HXY.out.2)
          have x8 : w6.cell? ⟨L + 1 + 1, 0, none⟩ = some (.func (.func 55) #[.pointer (some ⟨L, 0, none⟩)] #[]) := hx6.t8.cell 0
          have HX6 := zzh hx6
          clear hx6 hl6
          gi_wp2
          refine ⟨trivial, rfl, CallsIn.mono (F := Fence.wide) KD ?_⟩
          rintro e w7 ⟨rfl, hl7, hk7⟩
          have hx7 := HX6.out.step hk7 hl7
          have HO2 := zzh (diffS_ordK (most := most) (e := f1) (x := x) (y := y) HO1.out)
          have HN2 := zzh (diffS_len T1 most f1 x y)
          clear hl7 hk7 KD x8
          generalize diffS T1 most f1 x y = s2 at *
          obtain ⟨T2, f2⟩ := s2
          dsimp only at HO2 HN2 HLS1 hx7
          obtain ⟨A7, c7, hl7⟩ := hx7.lay
          have KD := (callsIn_wide (n := 0)).2 (ldiff_ok hl7 (show T2.length < 100000 by have := HN1.out; have := HN2.out; have := HLN2.out; omega) HO2.out y x HXY.out.2 HXY.out.1)
          have x8 : w7.cell? ⟨L + 1 + 1, 0, none⟩ = some (.func (.func 55) #[.pointer (some ⟨L, 0, none⟩)] #[]) := hx7.t8.cell 0
          have HX7 := zzh hx7
          clear hx7 hl7
          gi_wp2
          refine ⟨trivial, rfl, CallsIn.mono (F := Fence.wide) KD ?_⟩
          rintro e w8 ⟨rfl, hl8, hk8⟩
          have hx8 := HX7.out.step hk8 hl8
          have HO3 := zzh (diffS_ordK (most := most) (e := f2) (x := y) (y := x) HO2.out)
          have HN3 := zzh (diffS_len T2 most f2 y x)
          clear hl8 hk8 KD x8
          generalize diffS T2 most f2 y x = s3 at *
          obtain ⟨T3, f3⟩ := s3
          dsimp only at HO3 HN3 HLS1 hx8
          obtain ⟨A8, c8, hl8⟩ := hx8.lay
          have x7 := hx8.t7.cell 0
          have xe := hl8.lay.blk.cell 2
          simp only [zzg, zzi, zzj] at x7 xe
          have HX8 := zzh hx8
          have hl8d : Blk w8.drew L _ _ := hl8.lay.blk
          clear hx8 hl8
          by_cases hf : f3 = 0
          · subst hf
            gi_wp2
            refine ⟨_, _, HX8.out.loop.end_ e5 e6, .inl ⟨rfl, T3, HX8.out.put r, ?_, HO3.out, ?_, fun p hp => HI2.out p (List.mem_cons_of_mem _ hp)⟩⟩
            · rw [HLA.out, layAllS, HLS1.out, if_neg (by simp)]
            · have h1 := HLE.out
              rw [List.length_cons] at h1
              have := HN1.out; have := HN2.out; have := HN3.out
              omega
          · have hne : (f3 != 0) = true := by simp [hf]
            have hne' : (f3 == 0) = false := by simp [hf]
            have HF3 := zzh hf
            clear hf
            gi_wp2
            have hx9 : SX w B L (busyRec r) RA (nodesT T) rc T3 most f3 w8.drew := HX8.out.below (below_drewN (Below.refl w8.heap.size w8) 1)
            have x9 : w8.drew.cell? ⟨L + 1, 0, none⟩ = some (.pointer (some ⟨L, 0, none⟩)) := x7
            have xe9 : w8.drew.cell? ⟨L, 2, none⟩ = some (.int .i64 f3) := xe
            refine wpIn_region_round (S := fun W' => W'.cell? ⟨L + 1, 0, none⟩ = some (.pointer (some ⟨L, 0, none⟩)) ∧ W'.cell? ⟨L, 2, none⟩ = some (.int .i64 f3)) (by kernel_rfl) (by kernel_rfl) ⟨x9, xe9⟩ (fun hHeld => ?_)
            refine wpAnyH_take (i := 0) (v := .agg #[.slice none 0 0]) rfl (by kernel_rfl) (by kernel_rfl) (by kernel_rfl) (fun _ _ _ h => h) (Or.inl ⟨by rfl, fun wS hSw => ?_⟩) (by assumption) ?_
            · go_simp
            try simp only [Act.put, zza]
            refine wpAnyH_take (i := 1) (v := .pointer (some ⟨L, 0, none⟩)) rfl (by kernel_rfl) (by kernel_rfl) (by kernel_rfl) (fun _ _ _ h => h) (Or.inl ⟨by rfl, fun wS hSw => ?_⟩) (by assumption) ?_
            · (obtain ⟨z0, z1⟩ := hSw; go_simp)
            try simp only [Act.put]
            refine wpAnyH_take (i := 2) (v := .pointer (some ⟨L, 0, none⟩)) rfl (by kernel_rfl) (by kernel_rfl) (by kernel_rfl) (fun _ _ _ h => h) (Or.inl ⟨by rfl, fun wS hSw => ?_⟩) (by assumption) ?_
            · go_simp
            try simp only [Act.put]
            refine wpAnyH_take (i := 3) (v := .pointer (some ⟨L, 2, none⟩)) rfl (by kernel_rfl) (by kernel_rfl) (by kernel_rfl) (fun _ _ _ h => h) (Or.inl ⟨by rfl, fun wS hSw => ?_⟩) (by assumption) ?_
            · go_simp
            try simp only [Act.put]
            refine wpAnyH_take (i := 4) (v := .int .i64 f3) rfl (by kernel_rfl) (by kernel_rfl) (by kernel_rfl) (fun _ _ _ h => h) (Or.inl ⟨by rfl, fun wS hSw => ?_⟩) (by assumption) ?_
            · (obtain ⟨z0, z1⟩ := hSw; go_simp)
            try simp only [Act.put]
            have f4 : w8.drew.frozen? ⟨B + 1 + 1, 0, none⟩ = false := hx9.t4.frozen 0
            have f5 : w8.drew.frozen? ⟨B + 1 + 1 + 1, 0, none⟩ = false := hx9.t5.frozen 0
            have b4 : w8.drew.cell? ⟨B + 1 + 1, 0, none⟩ = some (.slice none 0 0) := hx9.t4.cell 0
            have b5 : w8.drew.cell? ⟨B + 1 + 1 + 1, 0, none⟩ = some (.int .i64 0) := hx9.t5.cell 0
            have hp4 := Kept.set1 w8.drew (B + 2) 0 (.slice none 0 0)
            have HLE8 := zzh hx9.le
            have HY4 := zzh (hx9.t4.set_ 0 (.slice none 0 0))
            have HY5 := zzh (hx9.t5.kept hp4 (by omega))
            have HYL := zzh (hx9.loop.kept hp4 (by have := hx9.le; omega) (by have := hx9.le; omega))
            have HYK := zzh (hx9.kept.trans (hp4.below (by have := hx9.le; have := hx9.loop.lt; omega) (fun k e => by omega)))
            have s4 : (w8.drew.setCell ⟨B + 1 + 1, 0, none⟩ (.slice none 0 0)).cell? ⟨L + 1, 0, none⟩ = some (.pointer (some ⟨L, 0, none⟩)) := (hx9.t7.kept hp4 (by have := hx9.le; omega)).cell 0
            have s5 : (w8.drew.setCell ⟨B + 1 + 1, 0, none⟩ (.slice none 0 0)).cell? ⟨L, 2, none⟩ = some (.int .i64 f3) := ((hl8d.kept hp4 (by have := hx9.le; omega))).cell 2
            have f6 : (w8.drew.setCell ⟨B + 1 + 1, 0, none⟩ (.slice none 0 0)).frozen? ⟨B + 1 + 1 + 1, 0, none⟩ = false := HY5.out.frozen 0
            have b6 : (w8.drew.setCell ⟨B + 1 + 1, 0, none⟩ (.slice none 0 0)).cell? ⟨B + 1 + 1 + 1, 0, none⟩ = some (.int .i64 0) := HY5.out.cell 0
            have f5w : w8.frozen? ⟨B + 1 + 1 + 1, 0, none⟩ = false := f5
            have b5w : w8.cell? ⟨B + 1 + 1 + 1, 0, none⟩ = some (.int .i64 0) := b5
            have hp5 := Kept.set1 (w8.drew.setCell ⟨B + 2, 0, none⟩ (.slice none 0 0)) (B + 3) 0 (.int .i64 f3)
            have HZ4 := zzh (HY4.out.kept hp5 (by omega))
            have HZ5 := zzh (HY5.out.set_ 0 (.int .i64 f3))
            have HZL := zzh (HYL.out.kept hp5 (by have := hx9.le; omega) (by have := hx9.le; omega))
            have HZK := zzh (HYK.out.trans (hp5.below (by have := hx9.le; have := HYL.out.lt; omega) (fun k e => by omega)))
            have s6 : ((w8.drew.setCell ⟨B + 1 + 1, 0, none⟩ (.slice none 0 0)).setCell ⟨B + 1 + 1 + 1, 0, none⟩ (.int .i64 f3)).cell? ⟨L + 1, 0, none⟩ = some (.pointer (some ⟨L, 0, none⟩)) := ((hx9.t7.kept hp4 (by have := hx9.le; omega)).kept hp5 (by have := hx9.le; omega)).cell 0
            have s7 : ((w8.drew.setCell ⟨B + 1 + 1, 0, none⟩ (.slice none 0 0)).setCell ⟨B + 1 + 1 + 1, 0, none⟩ (.int .i64 f3)).cell? ⟨L, 2, none⟩ = some (.int .i64 f3) := ((hl8d.kept hp4 (by have := hx9.le; omega)).kept hp5 (by have := hx9.le; omega)).cell 2
            simp only [zza, zzb] at HY4 HZ4 HZ5
            clear hx9 hp4 hp5 hl8d
            refine wpAnyH_ready (rs := [5]) (by kernel_rfl) (by simp) ?_
            refine AllReadyH.cons rfl (fun K hK => ?_) AllReadyH.nil
            go_simp
            refine hK.out _ _ ?_ (fun hHeld => ?_)
            · exact ⟨s4, s5⟩
            clear hK K
            refine wpAnyH_ready (rs := [6]) (by kernel_rfl) (by simp) ?_
            refine AllReadyH.cons rfl (fun K hK => ?_) AllReadyH.nil
            go_simp
            refine hK.out _ _ ?_ (fun hHeld => ?_)
            · exact ⟨s6, s7⟩
            clear hK K
            refine wpAnyH_done (by kernel_rfl) ?_ _
            refine NoOut.normal ?_
            gi_wp2
            refine ⟨_, _, HZL.out.stop_ .ret, .inr ⟨rfl, f3, ?_, HZL.out.put _, HZ4.out.kept (Kept.putObj _ _ _) (by have := HLE8.out; omega), HZ5.out.kept (Kept.putObj _ _ _) (by have := HLE8.out; omega), HZK.out.trans ((Kept.putObj _ _ _).below (by have := HLE8.out; have := HZL.out.lt; omega) (fun k e => by have := HLE8.out; omega)), HLE8.out⟩⟩
            rw [HLA.out, layAllS, HLS1.out, if_pos HF3.out]
        · go_simp
          have HLP := zzh HL1.out
          have HBk2 := zzh (HBk1.out.alloc HBk1.out.size (.cells #[.slice none 0 0] 33))
          have HX2 := zzh (HX0.out.below HBk2.out)
          have HL2 := zzh (HL0.out.below HBk2.out)
          have HT2 := zzh (Blk.new w10 33 #[.slice none 0 0])
          have HGE : Hid (W2.heap.size ≤ w10.heap.size) := zzh HBk1.out.size
          refine hK.out _ _ ?_ (fun hHeld => ?_)
          · exact HX2.out.held HL2.out
          clear hK K
          refine wpAnyH_ready (rs := [8]) (by kernel_rfl) (by simp) ?_
          refine AllReadyH.cons rfl (fun K hK => ?_) AllReadyH.nil
          go_simp
          go_loud (refine (K8.out _ HL2.out).mono ?_)
          rintro e w30 ⟨A3, c3, rfl, htb, hcb, hfr, hb⟩
          have HBk3 := zzh (HBk2.out.trans (hb.mono HBk2.out.size))
          have HX3 := zzh (HX0.out.below HBk3.out)
          have HL3 := zzh (HL0.out.below HBk3.out)
          have HT3 := zzh (HT2.out.below hb HT2.out.lt)
          have HTB := zzh htb
          have HCB := zzh hcb
          have HNL : Hid (∀ b, A3 = some b → b.block ≠ L) := zzh (fr_ne hfr HL2.out HX2.out.loop.lt)
          have HNG : Hid (∀ b, A3 = some b → b.block ≠ w10.heap.size) := zzh (fr_new hfr HLP.out.tab (Nat.le_refl _) HT2.out.lt)
          clear hb htb hcb hfr
          refine hK.out _ _ ?_ (fun hHeld => ?_)
          · exact HX3.out.held HL3.out
          clear hK K
          refine wpAnyH_take (i := 9) (v := .tuple #[.agg #[.slice A3 T'.length c3], .int .i64 id', .int .i64 e']) rfl (by kernel_rfl) (by kernel_rfl) (by kernel_rfl) (fun _ _ _ h => h) (Or.inl ⟨by rfl, fun wS hSw => ?_⟩) (by assumption) ?_
          · go_simp
          try simp only [Act.put, zza]
          refine wpAnyH_take (i := 10) (v := .agg #[.slice A3 T'.length c3]) rfl (by kernel_rfl) (by kernel_rfl) (by kernel_rfl) (fun _ _ _ h => h) (Or.inl ⟨by rfl, fun wS hSw => ?_⟩) (by assumption) ?_
          · go_simp
          try simp only [Act.put]
          refine wpAnyH_take (i := 11) (v := .int .i64 id') rfl (by kernel_rfl) (by kernel_rfl) (by kernel_rfl) (fun _ _ _ h => h) (Or.inl ⟨by rfl, fun wS hSw => ?_⟩) (by assumption) ?_
          · go_simp
          try simp only [Act.put]
          refine wpAnyH_take (i := 12) (v := .int .i64 e') rfl (by kernel_rfl) (by kernel_rfl) (by kernel_rfl) (fun _ _ _ h => h) (Or.inl ⟨by rfl, fun wS hSw => ?_⟩) (by assumption) ?_
          · go_simp
          try simp only [Act.put]
          have fG : w30.frozen? ⟨w10.heap.size, 0, none⟩ = false := HT3.out.frozen 0
          have cG : w30.cell? ⟨w10.heap.size, 0, none⟩ = some (.slice none 0 0) := HT3.out.cell 0
          refine wpAnyH_ready (rs := [14]) (by kernel_rfl) (by simp) ?_
          refine AllReadyH.cons rfl (fun K hK => ?_) AllReadyH.nil
          go_simp
          have HBk4 := zzh (HBk3.out.setCell (p := ⟨w10.heap.size, 0, none⟩) HGE.out (.slice A3 T'.length c3))
          have HX4 := zzh (HX0.out.below HBk4.out)
          have HL4 := zzh (HL0.out.below HBk4.out)
          have HT4 := zzh (HT3.out.set_ 0 (.slice A3 T'.length c3))
          refine hK.out _ _ ?_ (fun hHeld => ?_)
          · exact HX4.out.held HL4.out
          clear hK K
          refine wpAnyH_take (i := 15) (v := .int .i64 id') rfl (by kernel_rfl) (by kernel_rfl) (by kernel_rfl) (fun _ _ _ h => h) (Or.inl ⟨by rfl, fun wS hSw => ?_⟩) (by assumption) ?_
          · go_simp
          try simp only [Act.put, zza]
          refine wpAnyH_take (i := 16) (v := .int .i64 e') rfl (by kernel_rfl) (by kernel_rfl) (by kernel_rfl) (fun _ _ _ h => h) (Or.inl ⟨by rfl, fun wS hSw => ?_⟩) (by assumption) ?_
          · go_simp
          try simp only [Act.put]
          refine wpAnyH_done (by kernel_rfl) ?_ _
          refine NoOut.normal ?_
          have HTF : Hid (Blk (w30.setCell ⟨w10.heap.size, 0, none⟩ (.slice A3 T'.length c3)) w10.heap.size 33 #[.slice A3 T'.length c3]) := zzh HT4.out
          have HTBF : Hid (Tab (w30.setCell ⟨w10.heap.size, 0, none⟩ (.slice A3 T'.length c3)) A3 T') := zzh (HTB.out.kept1 (Kept.set1 _ _ _ _) HNG.out)
          have HXF : Hid (SX w B L (busyRec r) RA (nodesT T) rc Tk most 0 (w30.setCell ⟨w10.heap.size, 0, none⟩ (.slice A3 T'.length c3))) := zzh HX4.out
          have HLF : Hid (LayS (w30.setCell ⟨w10.heap.size, 0, none⟩ (.slice A3 T'.length c3)) L Tk most 0 A2 c2) := zzh HL4.out
          clear HX1 HX2 HX3 HX4 HL1 HL2 HL3 HL4 HBk1 HBk2 HBk3 HBk4 HT2 HT3 HT4 HTB HGE HLP fG cG HNG
          generalize w30.setCell ⟨w10.heap.size, 0, none⟩ (.slice A3 T'.length c3) = W5 at *
          generalize w10.heap.size = G at *
          have x7 := HXF.out.t7.cell 0
          have xT := HTF.out.cell 0
          simp only [zzg, zzi] at x7 xT
          gi_wp2
          refine ⟨trivial, rfl, CallsIn.mono (F := Fence.wide) ((callsIn_wide (n := 0)).2 (keep_ok HLF.out.lay A3 T'.length c3 e')) ?_⟩
          rintro e w6 ⟨rfl, hlay, hk⟩
          have hl6 := lay_keep HLF.out HTBF.out HCB.out HNL.out hlay hk
          have hx6 := HXF.out.step hk hl6
          have HO1 := zzh (keepS_ordK (e := e') HOR.out HTO.out)
          have HN1 := zzh (keepS_len (e := e') HTL.out)
          clear hl6 hlay hk x7 xT HTF HTBF HXF HLF
          generalize keepS Tk T' e' = s1 at *
          obtain ⟨T1, f1⟩ := s1
          dsimp only at HO1 HN1 HLS1 hx6
          obtain ⟨A6, c6, hl6⟩ := hx6.lay
          have KD := (callsIn_wide (n := 0)).2 (ldiff_ok hl6 (show T1.length < 100000 by have := HN1.out; have := HLN2.out; omega) HO1.out x y HXY.out.1 HXY.out.2)
          have x8 : w6.cell? ⟨L + 1 + 1, 0, none⟩ = some (.func (.func 55) #[.pointer (some ⟨L, 0, none⟩)] #[]) := hx6.t8.cell 0
          have HX6 := zzh hx6
          clear hx6 hl6
          gi_wp2
          refine ⟨trivial, rfl, CallsIn.mono (F := Fence.wide) KD ?_⟩
          rintro e w7 ⟨rfl, hl7, hk7⟩
          have hx7 := HX6.out.step hk7 hl7
          have HO2 := zzh (diffS_ordK (most := most) (e := f1) (x := x) (y := y) HO1.out)
          have HN2 := zzh (diffS_len T1 most f1 x y)
          clear hl7 hk7 KD x8
          generalize diffS T1 most f1 x y = s2 at *
          obtain ⟨T2, f2⟩ := s2
          dsimp only at HO2 HN2 HLS1 hx7
          obtain ⟨A7, c7, hl7⟩ := hx7.lay
          have KD := (callsIn_wide (n := 0)).2 (ldiff_ok hl7 (show T2.length < 100000 by have := HN1.out; have := HN2.out; have := HLN2.out; omega) HO2.out y x HXY.out.2 HXY.out.1)
          have x8 : w7.cell? ⟨L + 1 + 1, 0, none⟩ = some (.func (.func 55) #[.pointer (some ⟨L, 0, none⟩)] #[]) := hx7.t8.cell 0
          have HX7 := zzh hx7
          clear hx7 hl7
          gi_wp2
          refine ⟨trivial, rfl, CallsIn.mono (F := Fence.wide) KD ?_⟩
          rintro e w8 ⟨rfl, hl8, hk8⟩
          have hx8 := HX7.out.step hk8 hl8
          have HO3 := zzh (diffS_ordK (most := most) (e := f2) (x := y) (y := x) HO2.out)
          have HN3 := zzh (diffS_len T2 most f2 y x)
          clear hl8 hk8 KD x8
          generalize diffS T2 most f2 y x = s3 at *
          obtain ⟨T3, f3⟩ := s3
          dsimp only at HO3 HN3 HLS1 hx8
          obtain ⟨A8, c8, hl8⟩ := hx8.lay
          have x7 := hx8.t7.cell 0
          have xe := hl8.lay.blk.cell 2
          simp only [zzg, zzi, zzj] at x7 xe
          have HX8 := zzh hx8
          have hl8d : Blk w8.drew L _ _ := hl8.lay.blk
          clear hx8 hl8
          by_cases hf : f3 = 0
          · subst hf
            gi_wp2
            refine ⟨_, _, HX8.out.loop.end_ e5 e6, .inl ⟨rfl, T3, HX8.out.put r, ?_, HO3.out, ?_, fun p hp => HI2.out p (List.mem_cons_of_mem _ hp)⟩⟩
            · rw [HLA.out, layAllS, HLS1.out, if_neg (by simp)]
            · have h1 := HLE.out
              rw [List.length_cons] at h1
              have := HN1.out; have := HN2.out; have := HN3.out
              omega
          · have hne : (f3 != 0) = true := by simp [hf]
            have hne' : (f3 == 0) = false := by simp [hf]
            have HF3 := zzh hf
            clear hf
            gi_wp2
            have hx9 : SX w B L (busyRec r) RA (nodesT T) rc T3 most f3 w8.drew := HX8.out.below (below_drewN (Below.refl w8.heap.size w8) 1)
            have x9 : w8.drew.cell? ⟨L + 1, 0, none⟩ = some (.pointer (some ⟨L, 0, none⟩)) := x7
            have xe9 : w8.drew.cell? ⟨L, 2, none⟩ = some (.int .i64 f3) := xe
            refine wpIn_region_round (S := fun W' => W'.cell? ⟨L + 1, 0, none⟩ = some (.pointer (some ⟨L, 0, none⟩)) ∧ W'.cell? ⟨L, 2, none⟩ = some (.int .i64 f3)) (by kernel_rfl) (by kernel_rfl) ⟨x9, xe9⟩ (fun hHeld => ?_)
            refine wpAnyH_take (i := 0) (v := .agg #[.slice none 0 0]) rfl (by kernel_rfl) (by kernel_rfl) (by kernel_rfl) (fun _ _ _ h => h) (Or.inl ⟨by rfl, fun wS hSw => ?_⟩) (by assumption) ?_
            · go_simp
            try simp only [Act.put, zza]
            refine wpAnyH_take (i := 1) (v := .pointer (some ⟨L, 0, none⟩)) rfl (by kernel_rfl) (by kernel_rfl) (by kernel_rfl) (fun _ _ _ h => h) (Or.inl ⟨by rfl, fun wS hSw => ?_⟩) (by assumption) ?_
            · (obtain ⟨z0, z1⟩ := hSw; go_simp)
            try simp only [Act.put]
            refine wpAnyH_take (i := 2) (v := .pointer (some ⟨L, 0, none⟩)) rfl (by kernel_rfl) (by kernel_rfl) (by kernel_rfl) (fun _ _ _ h => h) (Or.inl ⟨by rfl, fun wS hSw => ?_⟩) (by assumption) ?_
            · go_simp
            try simp only [Act.put]
            refine wpAnyH_take (i := 3) (v := .pointer (some ⟨L, 2, none⟩)) rfl (by kernel_rfl) (by kernel_rfl) (by kernel_rfl) (fun _ _ _ h => h) (Or.inl ⟨by rfl, fun wS hSw => ?_⟩) (by assumption) ?_
            · go_simp
            try simp only [Act.put]
            refine wpAnyH_take (i := 4) (v := .int .i64 f3) rfl (by kernel_rfl) (by kernel_rfl) (by kernel_rfl) (fun _ _ _ h => h) (Or.inl ⟨by rfl, fun wS hSw => ?_⟩) (by assumption) ?_
            · (obtain ⟨z0, z1⟩ := hSw; go_simp)
            try simp only [Act.put]
            have f4 : w8.drew.frozen? ⟨B + 1 + 1, 0, none⟩ = false := hx9.t4.frozen 0
            have f5 : w8.drew.frozen? ⟨B + 1 + 1 + 1, 0, none⟩ = false := hx9.t5.frozen 0
            have b4 : w8.drew.cell? ⟨B + 1 + 1, 0, none⟩ = some (.slice none 0 0) := hx9.t4.cell 0
            have b5 : w8.drew.cell? ⟨B + 1 + 1 + 1, 0, none⟩ = some (.int .i64 0) := hx9.t5.cell 0
            have hp4 := Kept.set1 w8.drew (B + 2) 0 (.slice none 0 0)
            have HLE8 := zzh hx9.le
            have HY4 := zzh (hx9.t4.set_ 0 (.slice none 0 0))
            have HY5 := zzh (hx9.t5.kept hp4 (by omega))
            have HYL := zzh (hx9.loop.kept hp4 (by have := hx9.le; omega) (by have := hx9.le; omega))
            have HYK := zzh (hx9.kept.trans (hp4.below (by have := hx9.le; have := hx9.loop.lt; omega) (fun k e => by omega)))
            have s4 : (w8.drew.setCell ⟨B + 1 + 1, 0, none⟩ (.slice none 0 0)).cell? ⟨L + 1, 0, none⟩ = some (.pointer (some ⟨L, 0, none⟩)) := (hx9.t7.kept hp4 (by have := hx9.le; omega)).cell 0
            have s5 : (w8.drew.setCell ⟨B + 1 + 1, 0, none⟩ (.slice none 0 0)).cell? ⟨L, 2, none⟩ = some (.int .i64 f3) := ((hl8d.kept hp4 (by have := hx9.le; omega))).cell 2
            have f6 : (w8.drew.setCell ⟨B + 1 + 1, 0, none⟩ (.slice none 0 0)).frozen? ⟨B + 1 + 1 + 1, 0, none⟩ = false := HY5.out.frozen 0
            have b6 : (w8.drew.setCell ⟨B + 1 + 1, 0, none⟩ (.slice none 0 0)).cell? ⟨B + 1 + 1 + 1, 0, none⟩ = some (.int .i64 0) := HY5.out.cell 0
            have f5w : w8.frozen? ⟨B + 1 + 1 + 1, 0, none⟩ = false := f5
            have b5w : w8.cell? ⟨B + 1 + 1 + 1, 0, none⟩ = some (.int .i64 0) := b5
            have hp5 := Kept.set1 (w8.drew.setCell ⟨B + 2, 0, none⟩ (.slice none 0 0)) (B + 3) 0 (.int .i64 f3)
            have HZ4 := zzh (HY4.out.kept hp5 (by omega))
            have HZ5 := zzh (HY5.out.set_ 0 (.int .i64 f3))
            have HZL := zzh (HYL.out.kept hp5 (by have := hx9.le; omega) (by have := hx9.le; omega))
            have HZK := zzh (HYK.out.trans (hp5.below (by have := hx9.le; have := HYL.out.lt; omega) (fun k e => by omega)))
            have s6 : ((w8.drew.setCell ⟨B + 1 + 1, 0, none⟩ (.slice none 0 0)).setCell ⟨B + 1 + 1 + 1, 0, none⟩ (.int .i64 f3)).cell? ⟨L + 1, 0, none⟩ = some (.pointer (some ⟨L, 0, none⟩)) := ((hx9.t7.kept hp4 (by have := hx9.le; omega)).kept hp5 (by have := hx9.le; omega)).cell 0
            have s7 : ((w8.drew.setCell ⟨B + 1 + 1, 0, none⟩ (.slice none 0 0)).setCell ⟨B + 1 + 1 + 1, 0, none⟩ (.int .i64 f3)).cell? ⟨L, 2, none⟩ = some (.int .i64 f3) := ((hl8d.kept hp4 (by have := hx9.le; omega)).kept hp5 (by have := hx9.le; omega)).cell 2
            simp only [zza, zzb] at HY4 HZ4 HZ5
            clear hx9 hp4 hp5 hl8d
            refine wpAnyH_ready (rs := [5]) (by kernel_rfl) (by simp) ?_
            refine AllReadyH.cons rfl (fun K hK => ?_) AllReadyH.nil
            go_simp
            refine hK.out _ _ ?_ (fun hHeld => ?_)
            · exact ⟨s4, s5⟩
            clear hK K
            refine wpAnyH_ready (rs := [6]) (by kernel_rfl) (by simp) ?_
            refine AllReadyH.cons rfl (fun K hK => ?_) AllReadyH.nil
            go_simp
            refine hK.out _ _ ?_ (fun hHeld => ?_)
            · exact ⟨s6, s7⟩
            clear hK K
            refine wpAnyH_done (by kernel_rfl) ?_ _
            refine NoOut.normal ?_
            gi_wp2
            refine ⟨_, _, HZL.out.stop_ .ret, .inr ⟨rfl, f3, ?_, HZL.out.put _, HZ4.out.kept (Kept.putObj _ _ _) (by have := HLE8.out; omega), HZ5.out.kept (Kept.putObj _ _ _) (by have := HLE8.out; omega), HZK.out.trans ((Kept.putObj _ _ _).below (by have := HLE8.out; have := HZL.out.lt; omega) (fun k e => by have := HLE8.out; omega)), HLE8.out⟩⟩
            rw [HLA.out, layAllS, HLS1.out, if_pos HF3.out]
      · go_simp
        have HLP := zzh HL0.out
        have HBk1 := zzh (HBk0.out.alloc HBk0.out.size (.cells #[.slice none 0 0] 33))
        have HX1 := zzh (HX0.out.below HBk1.out)
        have HL1 := zzh (HL0.out.below HBk1.out)
        have HT1 := zzh (Blk.new W2.drew 33 #[.slice none 0 0])
        have HGE : Hid (W2.heap.size ≤ W2.heap.size) := zzh HBk0.out.size
        refine hK.out _ _ ?_ (fun hHeld => ?_)
        · exact HX1.out.held HL1.out
        clear hK K
        refine wpAnyH_ready (rs := [6]) (by kernel_rfl) (by simp) ?_
        refine AllReadyH.cons rfl (fun K hK => ?_) AllReadyH.nil
        go_simp
        go_loud (refine (equality_ok _ x y).mono ?_)
        rintro e w20 ⟨rfl, hb⟩
        have HBk2 := zzh (HBk1.out.trans (hb.mono HBk1.out.size))
        have HX2 := zzh (HX0.out.below HBk2.out)
        have HL2 := zzh (HL0.out.below HBk2.out)
        have HT2 := zzh (HT1.out.below hb HT1.out.lt)
        clear hb
        refine hK.out _ _ ?_ (fun hHeld => ?_)
        · exact HX2.out.held HL2.out
        clear hK K
        refine wpAnyH_ready (rs := [8]) (by kernel_rfl) (by simp) ?_
        refine AllReadyH.cons rfl (fun K hK => ?_) AllReadyH.nil
        go_simp
        go_loud (refine (K8.out _ HL2.out).mono ?_)
        rintro e w30 ⟨A3, c3, rfl, htb, hcb, hfr, hb⟩
        have HBk3 := zzh (HBk2.out.trans (hb.mono HBk2.out.size))
        have HX3 := zzh (HX0.out.below HBk3.out)
        have HL3 := zzh (HL0.out.below HBk3.out)
        have HT3 := zzh (HT2.out.below hb HT2.out.lt)
        have HTB := zzh htb
        have HCB := zzh hcb
        have HNL : Hid (∀ b, A3 = some b → b.block ≠ L) := zzh (fr_ne hfr HL2.out HX2.out.loop.lt)
        have HNG : Hid (∀ b, A3 = some b → b.block ≠ W2.heap.size) := zzh (fr_new hfr HLP.out.tab (Nat.le_refl _) HT2.out.lt)
        clear hb htb hcb hfr
        refine hK.out _ _ ?_ (fun hHeld => ?_)
        · exact HX3.out.held HL3.out
        clear hK K
        refine wpAnyH_take (i := 9) (v := .tuple #[.agg #[.slice A3 T'.length c3], .int .i64 id', .int .i64 e']) rfl (by kernel_rfl) (by kernel_rfl) (by kernel_rfl) (fun _ _ _ h => h) (Or.inl ⟨by rfl, fun wS hSw => ?_⟩) (by assumption) ?_
        · go_simp
        try simp only [Act.put, zza]
        refine wpAnyH_take (i := 10) (v := .agg #[.slice A3 T'.length c3]) rfl (by kernel_rfl) (by kernel_rfl) (by kernel_rfl) (fun _ _ _ h => h) (Or.inl ⟨by rfl, fun wS hSw => ?_⟩) (by assumption) ?_
        · go_simp
        try simp only [Act.put]
        refine wpAnyH_take (i := 11) (v := .int .i64 id') rfl (by kernel_rfl) (by kernel_rfl) (by kernel_rfl) (fun _ _ _ h => h) (Or.inl ⟨by rfl, fun wS hSw => ?_⟩) (by assumption) ?_
        · go_simp
        try simp only [Act.put]
        refine wpAnyH_take (i := 12) (v := .int .i64 e') rfl (by kernel_rfl) (by kernel_rfl) (by kernel_rfl) (fun _ _ _ h => h) (Or.inl ⟨by rfl, fun wS hSw => ?_⟩) (by assumption) ?_
        · go_simp
        try simp only [Act.put]
        have fG : w30.frozen? ⟨W2.heap.size, 0, none⟩ = false := HT3.out.frozen 0
        have cG : w30.cell? ⟨W2.heap.size, 0, none⟩ = some (.slice none 0 0) := HT3.out.cell 0
        refine wpAnyH_ready (rs := [14]) (by kernel_rfl) (by simp) ?_
        refine AllReadyH.cons rfl (fun K hK => ?_) AllReadyH.nil
        go_simp
        have HBk4 := zzh (HBk3.out.setCell (p := ⟨W2.heap.size, 0, none⟩) HGE.out (.slice A3 T'.length c3))
        have HX4 := zzh (HX0.out.below HBk4.out)
        have HL4 := zzh (HL0.out.below HBk4.out)
        have HT4 := zzh (HT3.out.set_ 0 (.slice A3 T'.length c3))
        refine hK.out _ _ ?_ (fun hHeld => ?_)
        · exact HX4.out.held HL4.out
        clear hK K
        refine wpAnyH_take (i := 15) (v := .int .i64 id') rfl (by kernel_rfl) (by kernel_rfl) (by kernel_rfl) (fun _ _ _ h => h) (Or.inl ⟨by rfl, fun wS hSw => ?_⟩) (by assumption) ?_
        · go_simp
        try simp only [Act.put, zza]
        refine wpAnyH_take (i := 16) (v := .int .i64 e') rfl (by kernel_rfl) (by kernel_rfl) (by kernel_rfl) (fun _ _ _ h => h) (Or.inl ⟨by rfl, fun wS hSw => ?_⟩) (by assumption) ?_
        · go_simp
        try simp only [Act.put]
        refine wpAnyH_done (by kernel_rfl) ?_ _
        refine NoOut.normal ?_
        have HTF : Hid (Blk (w30.setCell ⟨W2.heap.size, 0, none⟩ (.slice A3 T'.length c3)) W2.heap.size 33 #[.slice A3 T'.length c3]) := zzh HT4.out
        have HTBF : Hid (Tab (w30.setCell ⟨W2.heap.size, 0, none⟩ (.slice A3 T'.length c3)) A3 T') := zzh (HTB.out.kept1 (Kept.set1 _ _ _ _) HNG.out)
        have HXF : Hid (SX w B L (busyRec r) RA (nodesT T) rc Tk most 0 (w30.setCell ⟨W2.heap.size, 0, none⟩ (.slice A3 T'.length c3))) := zzh HX4.out
        have HLF : Hid (LayS (w30.setCell ⟨W2.heap.size, 0, none⟩ (.slice A3 T'.length c3)) L Tk most 0 A2 c2) := zzh HL4.out
        clear HX1 HX2 HX3 HX4 HL1 HL2 HL3 HL4 HBk1 HBk2 HBk3 HBk4 HT1 HT2 HT3 HT4 HTB HGE HLP fG cG HNG
        generalize w30.setCell ⟨W2.heap.size, 0, none⟩ (.slice A3 T'.length c3) = W5 at *
        generalize W2.heap.size = G at *
        have x7 := HXF.out.t7.cell 0
        have xT := HTF.out.cell 0
        simp only [zzg, zzi] at x7 xT
        gi_wp2
        refine ⟨trivial, rfl, CallsIn.mono (F := Fence.wide) ((callsIn_wide (n := 0)).2 (keep_ok HLF.out.lay A3 T'.length c3 e')) ?_⟩
        rintro e w6 ⟨rfl, hlay, hk⟩
        have hl6 := lay_keep HLF.out HTBF.out HCB.out HNL.out hlay hk
        have hx6 := HXF.out.step hk hl6
        have HO1 := zzh (keepS_ordK (e := e') HOR.out HTO.out)
        have HN1 := zzh (keepS_len (e := e') HTL.out)
        clear hl6 hlay hk x7 xT HTF HTBF HXF HLF
        generalize keepS Tk T' e' = s1 at *
        obtain ⟨T1, f1⟩ := s1
        dsimp only at HO1 HN1 HLS1 hx6
        obtain ⟨A6, c6, hl6⟩ := hx6.lay
        have KD := (callsIn_wide (n := 0)).2 (ldiff_ok hl6 (show T1.length < 100000 by have := HN1.out; have := HLN2.out; omega) HO1.out x y HXY.out.1 HXY.out.2)
        have x8 : w6.cell? ⟨L + 1 + 1, 0, none⟩ = some (.func (.func 55) #[.pointer (some ⟨L, 0, none⟩)] #[]) := hx6.t8.cell 0
        have HX6 := zzh hx6
        clear hx6 hl6
        gi_wp2
        refine ⟨trivial, rfl, CallsIn.mono (F := Fence.wide) KD ?_⟩
        rintro e w7 ⟨rfl, hl7, hk7⟩
        have hx7 := HX6.out.step hk7 hl7
        have HO2 := zzh (diffS_ordK (most := most) (e := f1) (x := x) (y := y) HO1.out)
        have HN2 := zzh (diffS_len T1 most f1 x y)
        clear hl7 hk7 KD x8
        generalize diffS T1 most f1 x y = s2 at *
        obtain ⟨T2, f2⟩ := s2
        dsimp only at HO2 HN2 HLS1 hx7
        obtain ⟨A7, c7, hl7⟩ := hx7.lay
        have KD := (callsIn_wide (n := 0)).2 (ldiff_ok hl7 (show T2.length < 100000 by have := HN1.out; have := HN2.out; have := HLN2.out; omega) HO2.out y x HXY.out.2 HXY.out.1)
        have x8 : w7.cell? ⟨L + 1 + 1, 0, none⟩ = some (.func (.func 55) #[.pointer (some ⟨L, 0, none⟩)] #[]) := hx7.t8.cell 0
        have HX7 := zzh hx7
        clear hx7 hl7
        gi_wp2
        refine ⟨trivial, rfl, CallsIn.mono (F := Fence.wide) KD ?_⟩
        rintro e w8 ⟨rfl, hl8, hk8⟩
        have hx8 := HX7.out.step hk8 hl8
        have HO3 := zzh (diffS_ordK (most := most) (e := f2) (x := y) (y := x) HO2.out)
        have HN3 := zzh (diffS_len T2 most f2 y x)
        clear hl8 hk8 KD x8
        generalize diffS T2 most f2 y x = s3 at *
        obtain ⟨T3, f3⟩ := s3
        dsimp only at HO3 HN3 HLS1 hx8
        obtain ⟨A8, c8, hl8⟩ := hx8.lay
        have x7 := hx8.t7.cell 0
        have xe := hl8.lay.blk.cell 2
        simp only [zzg, zzi, zzj] at x7 xe
        have HX8 := zzh hx8
        have hl8d : Blk w8.drew L _ _ := hl8.lay.blk
        clear hx8 hl8
        by_cases hf : f3 = 0
        · subst hf
          gi_wp2
          refine ⟨_, _, HX8.out.loop.end_ e5 e6, .inl ⟨rfl, T3, HX8.out.put r, ?_, HO3.out, ?_, fun p hp => HI2.out p (List.mem_cons_of_mem _ hp)⟩⟩
          · rw [HLA.out, layAllS, HLS1.out, if_neg (by simp)]
          · have h1 := HLE.out
            rw [List.length_cons] at h1
            have := HN1.out; have := HN2.out; have := HN3.out
            omega
        · have hne : (f3 != 0) = true := by simp [hf]
          have hne' : (f3 == 0) = false := by simp [hf]
          have HF3 := zzh hf
          clear hf
          gi_wp2
          have hx9 : SX w B L (busyRec r) RA (nodesT T) rc T3 most f3 w8.drew := HX8.out.below (below_drewN (Below.refl w8.heap.size w8) 1)
          have x9 : w8.drew.cell? ⟨L + 1, 0, none⟩ = some (.pointer (some ⟨L, 0, none⟩)) := x7
          have xe9 : w8.drew.cell? ⟨L, 2, none⟩ = some (.int .i64 f3) := xe
          refine wpIn_region_round (S := fun W' => W'.cell? ⟨L + 1, 0, none⟩ = some (.pointer (some ⟨L, 0, none⟩)) ∧ W'.cell? ⟨L, 2, none⟩ = some (.int .i64 f3)) (by kernel_rfl) (by kernel_rfl) ⟨x9, xe9⟩ (fun hHeld => ?_)
          refine wpAnyH_take (i := 0) (v := .agg #[.slice none 0 0]) rfl (by kernel_rfl) (by kernel_rfl) (by kernel_rfl) (fun _ _ _ h => h) (Or.inl ⟨by rfl, fun wS hSw => ?_⟩) (by assumption) ?_
          · go_simp
          try simp only [Act.put, zza]
          refine wpAnyH_take (i := 1) (v := .pointer (some ⟨L, 0, none⟩)) rfl (by kernel_rfl) (by kernel_rfl) (by kernel_rfl) (fun _ _ _ h => h) (Or.inl ⟨by rfl, fun wS hSw => ?_⟩) (by assumption) ?_
          · (obtain ⟨z0, z1⟩ := hSw; go_simp)
          try simp only [Act.put]
          refine wpAnyH_take (i := 2) (v := .pointer (some ⟨L, 0, none⟩)) rfl (by kernel_rfl) (by kernel_rfl) (by kernel_rfl) (fun _ _ _ h => h) (Or.inl ⟨by rfl, fun wS hSw => ?_⟩) (by assumption) ?_
          · go_simp
          try simp only [Act.put]
          refine wpAnyH_take (i := 3) (v := .pointer (some ⟨L, 2, none⟩)) rfl (by kernel_rfl) (by kernel_rfl) (by kernel_rfl) (fun _ _ _ h => h) (Or.inl ⟨by rfl, fun wS hSw => ?_⟩) (by assumption) ?_
          · go_simp
          try simp only [Act.put]
          refine wpAnyH_take (i := 4) (v := .int .i64 f3) rfl (by kernel_rfl) (by kernel_rfl) (by kernel_rfl) (fun _ _ _ h => h) (Or.inl ⟨by rfl, fun wS hSw => ?_⟩) (by assumption) ?_
          · (obtain ⟨z0, z1⟩ := hSw; go_simp)
          try simp only [Act.put]
          have f4 : w8.drew.frozen? ⟨B + 1 + 1, 0, none⟩ = false := hx9.t4.frozen 0
          have f5 : w8.drew.frozen? ⟨B + 1 + 1 + 1, 0, none⟩ = false := hx9.t5.frozen 0
          have b4 : w8.drew.cell? ⟨B + 1 + 1, 0, none⟩ = some (.slice none 0 0) := hx9.t4.cell 0
          have b5 : w8.drew.cell? ⟨B + 1 + 1 + 1, 0, none⟩ = some (.int .i64 0) := hx9.t5.cell 0
          have hp4 := Kept.set1 w8.drew (B + 2) 0 (.slice none 0 0)
          have HLE8 := zzh hx9.le
          have HY4 := zzh (hx9.t4.set_ 0 (.slice none 0 0))
          have HY5 := zzh (hx9.t5.kept hp4 (by omega))
          have HYL := zzh (hx9.loop.kept hp4 (by have := hx9.le; omega) (by have := hx9.le; omega))
          have HYK := zzh (hx9.kept.trans (hp4.below (by have := hx9.le; have := hx9.loop.lt; omega) (fun k e => by omega)))
          have s4 : (w8.drew.setCell ⟨B + 1 + 1, 0, none⟩ (.slice none 0 0)).cell? ⟨L + 1, 0, none⟩ = some (.pointer (some ⟨L, 0, none⟩)) := (hx9.t7.kept hp4 (by have := hx9.le; omega)).cell 0
          have s5 : (w8.drew.setCell ⟨B + 1 + 1, 0, none⟩ (.slice none 0 0)).cell? ⟨L, 2, none⟩ = some (.int .i64 f3) := ((hl8d.kept hp4 (by have := hx9.le; omega))).cell 2
          have f6 : (w8.drew.setCell ⟨B + 1 + 1, 0, none⟩ (.slice none 0 0)).frozen? ⟨B + 1 + 1 + 1, 0, none⟩ = false := HY5.out.frozen 0
          have b6 : (w8.drew.setCell ⟨B + 1 + 1, 0, none⟩ (.slice none 0 0)).cell? ⟨B + 1 + 1 + 1, 0, none⟩ = some (.int .i64 0) := HY5.out.cell 0
          have f5w : w8.frozen? ⟨B + 1 + 1 + 1, 0, none⟩ = false := f5
          have b5w : w8.cell? ⟨B + 1 + 1 + 1, 0, none⟩ = some (.int .i64 0) := b5
          have hp5 := Kept.set1 (w8.drew.setCell ⟨B + 2, 0, none⟩ (.slice none 0 0)) (B + 3) 0 (.int .i64 f3)
          have HZ4 := zzh (HY4.out.kept hp5 (by omega))
          have HZ5 := zzh (HY5.out.set_ 0 (.int .i64 f3))
          have HZL := zzh (HYL.out.kept hp5 (by have := hx9.le; omega) (by have := hx9.le; omega))
          have HZK := zzh (HYK.out.trans (hp5.below (by have := hx9.le; have := HYL.out.lt; omega) (fun k e => by omega)))
          have s6 : ((w8.drew.setCell ⟨B + 1 + 1, 0, none⟩ (.slice none 0 0)).setCell ⟨B + 1 + 1 + 1, 0, none⟩ (.int .i64 f3)).cell? ⟨L + 1, 0, none⟩ = some (.pointer (some ⟨L, 0, none⟩)) := ((hx9.t7.kept hp4 (by have := hx9.le; omega)).kept hp5 (by have := hx9.le; omega)).cell 0
          have s7 : ((w8.drew.setCell ⟨B + 1 + 1, 0, none⟩ (.slice none 0 0)).setCell ⟨B + 1 + 1 + 1, 0, none⟩ (.int .i64 f3)).cell? ⟨L, 2, none⟩ = some (.int .i64 f3) := ((hl8d.kept hp4 (by have := hx9.le; omega)).kept hp5 (by have := hx9.le; omega)).cell 2
          simp only [zza, zzb] at HY4 HZ4 HZ5
          clear hx9 hp4 hp5 hl8d
          refine wpAnyH_ready (rs := [5]) (by kernel_rfl) (by simp) ?_
          refine AllReadyH.cons rfl (fun K hK => ?_) AllReadyH.nil
          go_simp
          refine hK.out _ _ ?_ (fun hHeld => ?_)
          · exact ⟨s4, s5⟩
          clear hK K
          refine wpAnyH_ready (rs := [6]) (by kernel_rfl) (by simp) ?_
          refine AllReadyH.cons rfl (fun K hK => ?_) AllReadyH.nil
          go_simp
          refine hK.out _ _ ?_ (fun hHeld => ?_)
          · exact ⟨s6, s7⟩
          clear hK K
          refine wpAnyH_done (by kernel_rfl) ?_ _
          refine NoOut.normal ?_
          gi_wp2
          refine ⟨_, _, HZL.out.stop_ .ret, .inr ⟨rfl, f3, ?_, HZL.out.put _, HZ4.out.kept (Kept.putObj _ _ _) (by have := HLE8.out; omega), HZ5.out.kept (Kept.putObj _ _ _) (by have := HLE8.out; omega), HZK.out.trans ((Kept.putObj _ _ _).below (by have := HLE8.out; have := HZL.out.lt; omega) (fun k e => by have := HLE8.out; omega)), HLE8.out⟩⟩
          rw [HLA.out, layAllS, HLS1.out, if_pos HF3.out]
    · exact ⟨T, hx0, rfl, fun _ => HOrd.out, Nat.le_refl _, HIn.out⟩
    · have e5 := congrArg Loop.state hr
      have e6 := congrArg Loop.pending hr
      simp only [loopRec] at e5 e6
      clear hr
      rintro e W' ⟨rfl, hcase⟩
      rcases hcase with ⟨Tk, hsx, hlay, _⟩ | ⟨f3, hlay, hloop, hz4, hz5, hzk, hle⟩
      · refine ⟨none, _, hsx.loop.over_ e5 e6, ?_⟩
        have hx7 := hsx.put (overRec r)
        have HLA := zzh hlay
        clear hsx hlay hx0
        generalize W'.putObj (L + 5) (.loop (overRec r)) = W7 at *
        obtain ⟨A7, c7, hl7⟩ := hx7.lay
        have x7 := hx7.t7.cell 0
        have x8 := hl7.lay.blk.cell 0
        simp only [zzg, zzi] at x7 x8
        have f4 : W7.frozen? ⟨B + 1 + 1, 0, none⟩ = false := hx7.t4.frozen 0
        have f5 : W7.frozen? ⟨B + 1 + 1 + 1, 0, none⟩ = false := hx7.t5.frozen 0
        have b4 : W7.cell? ⟨B + 1 + 1, 0, none⟩ = some (.slice none 0 0) := hx7.t4.cell 0
        have b5 : W7.cell? ⟨B + 1 + 1 + 1, 0, none⟩ = some (.int .i64 0) := hx7.t5.cell 0
        have hle := hx7.le
        have hlt := hx7.loop.lt
        have hp4 := Kept.set1 W7 (B + 2) 0 (.slice A7 Tk.length c7)
        have hp5 := Kept.set1 (W7.setCell ⟨B + 2, 0, none⟩ (.slice A7 Tk.length c7)) (B + 3) 0 (.int .i64 0)
        have HY4 := zzh ((hx7.t4.set_ 0 (.slice A7 Tk.length c7)).kept hp5 (by omega))
        have HY5 := zzh ((hx7.t5.kept hp4 (by omega)).set_ 0 (.int .i64 0))
        have HYL := zzh ((hx7.loop.kept hp4 (by omega) (by omega)).kept hp5 (by omega) (by omega))
        have HYK := zzh ((hx7.kept.trans (hp4.below (by omega) (fun k e => by omega))).trans (hp5.below (by have := hp4.size; omega) (fun k e => by omega)))
        have HTB : Hid (Tab ((W7.setCell ⟨B + 2, 0, none⟩ (.slice A7 Tk.length c7)).setCell ⟨B + 3, 0, none⟩ (.int .i64 0)) A7 Tk) := zzh ((hl7.tab.far (fun i => hx7.t4.small i) hp4).far (fun i => (hx7.t5.kept hp4 (by omega)).small i) hp5)
        have HCap := zzh hl7.cap
        have HLe := zzh hle
        have HLt := zzh hlt
        simp only [zza, zzb] at HY4 HY5
        have HX7 := zzh hx7
        clear hx7 hl7 hp4 hp5 hle hlt
        go_wp2
        change bodyPostM _ _ _ _ _ _ _ ((W7.setCell ⟨B + 2, 0, none⟩ (.slice A7 Tk.length c7)).setCell ⟨B + 3, 0, none⟩ (.int .i64 0))
        generalize (W7.setCell ⟨B + 2, 0, none⟩ (.slice A7 Tk.length c7)).setCell ⟨B + 3, 0, none⟩ (.int .i64 0) = W8 at *
        have k9 := Kept.putObj W8 (L + 4) (.deferred none)
        have y4 : (W8.putObj (L + 4) (.deferred none)).cell? ⟨B + 1 + 1, 0, none⟩ = _ := (HY4.out.kept k9 (by have := HLe.out; omega)).cell 0
        have y5 : (W8.putObj (L + 4) (.deferred none)).cell? ⟨B + 1 + 1 + 1, 0, none⟩ = _ := (HY5.out.kept k9 (by have := HLe.out; omega)).cell 0
        simp only [zzg, zzi] at y4 y5
        refine ⟨by simp, .inl ⟨_, _, rfl, run_takeDeferred HYL.out.def_, ?_⟩⟩
        refine ⟨.tuple #[.agg #[.slice A7 Tk.length c7], .int .i64 0], by simp [results, Tryz.results25, go_sem, y4, y5], ?_⟩
        have hp := layAll_is most (pairsL (nodesT T)) T
        rw [HLA.out] at hp
        rw [HP.out]
        have h1 : (laysT (pairsL (nodesT T)) T most).T = Tk := hp.2.symm
        have h2 : (laysT (pairsL (nodesT T)) T most).e = 0 := hp.1.symm
        refine ⟨A7, c7, by rw [h1, h2], by rw [h1]; exact HTB.out.far (fun i => by unfold World.cell?; rw [HYL.out.def_]) k9, by rw [h1]; exact HCap.out, ?_⟩
        rw [HBs.out]
        exact HYK.out.trans (k9.below (by have := HYL.out.lt; have := HLe.out; omega) (fun k e => by have := HLe.out; omega))
      · refine ⟨some .ret, _, hloop.over_done, ?_⟩
        have HZL := zzh (hloop.put (overRec (doneRec r .ret)))
        have hk7 := Kept.putObj W' (L + 5) (.loop (overRec (doneRec r .ret)))
        have HZ4 := zzh (hz4.kept hk7 (by omega))
        have HZ5 := zzh (hz5.kept hk7 (by omega))
        have hlt := hloop.lt
        have HZK := zzh (hzk.trans (hk7.below (by omega) (fun k e => by omega)))
        have HLA := zzh hlay
        clear hloop hz4 hz5 hzk hlay hk7 hx0
        generalize W'.putObj (L + 5) (.loop (overRec (doneRec r .ret))) = W8 at *
        show Code.wpIn Fence.wide 2 Tryz.prog Code.ret _ _ _
        gi_wp2
        have k9 := Kept.putObj W8 (L + 4) (.deferred none)
        have y4 : (W8.putObj (L + 4) (.deferred none)).cell? ⟨B + 1 + 1, 0, none⟩ = _ := (HZ4.out.kept k9 (by omega)).cell 0
        have y5 : (W8.putObj (L + 4) (.deferred none)).cell? ⟨B + 1 + 1 + 1, 0, none⟩ = _ := (HZ5.out.kept k9 (by omega)).cell 0
        simp only [zzg, zzi] at y4 y5
        refine ⟨by simp, .inl ⟨_, _, rfl, run_takeDeferred HZL.out.def_, ?_⟩⟩
        refine ⟨.tuple #[.agg #[.slice none 0 0], .int .i64 f3], by simp [results, Tryz.results25, go_sem, y4, y5], ?_⟩
        have hp := layAll_is most (pairsL (nodesT T)) T
        rw [HLA.out] at hp
        rw [HP.out]
        have h1 : (laysT (pairsL (nodesT T)) T most).T = [] := hp.2.symm
        have h2 : (laysT (pairsL (nodesT T)) T most).e = f3 := hp.1.symm
        refine ⟨none, 0, by rw [h1, h2]; rfl, by rw [h1]; exact ⟨by simp, .inl rfl⟩, by rw [h1]; exact Nat.le_refl _, ?_⟩
        rw [HBs.out]
        exact HZK.out.trans (k9.below (by have := HZL.out.lt; omega) (fun k e => by omega))
end Go.Proofs.YtlipnnibagidiaaGreat

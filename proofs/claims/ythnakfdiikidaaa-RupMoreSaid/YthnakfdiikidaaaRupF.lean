/- A range over a function, at the fence that asks nothing: the statement, met from the iterator's contract; a round, met from the body's walk. -/
import Derived.Test.YthnakfdiikidaaaClA
import Derived.TacticsIn
import Derived.BigFrameIn
import Derived.RegionIn
import Derived.LoopIn
import Derived.OwnWalkIn
import Derived.RangeFuncRecord
import Derived.RangeFuncLeaves
import Derived.Test.YthnakfdiikidaaaRupD
namespace Go.Proofs.Ythnakfdiikidaaa
open Go.RowKit

/-- The record of a range over a function, as the statement lays it. -/
def loopRec (fn : FuncId) (tmps : Array Value) (ps : Array Tmp) (assign body : Code) (D : Nat) (st : LoopState) : Loop :=
  { state := st, pending := none, fn, tmps, params := ps, assign, body, defers := D }

/-- The loop's two blocks: the record at l, the block for the rounds' deferred calls at D. -/
structure LoopAt (W : World) (l D : Nat) (r : Loop) : Prop where
  rec_ : W.heap[l]? = some (.loop r)
  def_ : W.heap[D]? = some (.deferred (some []))
  ne_ : D ≠ l

theorem LoopAt.kept {S : Nat → Prop} {W W' : World} {l D : Nat} {r : Loop} (h : LoopAt W l D r) (hk : Kept S W W') (h1 : ¬ S l) (h2 : ¬ S D) : LoopAt W' l D r :=
  ⟨(hk.block l (Array.getElem?_eq_some_iff.1 h.rec_).1 h1).trans h.rec_, (hk.block D (Array.getElem?_eq_some_iff.1 h.def_).1 h2).trans h.def_, h.ne_⟩

/-- The statement. -/
theorem rangeFunc_wide {n : Nat} {P : Program} {g : Operand} {ps : Array Tmp} {assign body : Code} {Q : Exit → Act → World → Prop} {a : Act} {w : World} {gf : FuncId} {lb : Array Value}
    (hg : a.eval g = .func (.func gf) #[] lb) (hinv : ∀ (x : Value) (W : World), (invoke (.fn (.func gf) lb) #[x]).run P W = .ok (.enter gf (#[x] ++ lb)) W)
    (h : ∀ fn r, r = loopRec fn a.tmps ps assign body w.heap.size .ready → CallsIn Fence.wide (n - 1) P gf (#[.func (.yield (w.heap.size + 1)) #[] #[]] ++ lb) ((w.alloc (.deferred (some []))).alloc (.loop r))
      (rangePost Fence.wide n P (w.heap.size + 1) Q { a with defers := { target := .collected w.heap.size, args := #[] } :: a.defers })) :
    (Code.rangeFunc g ps assign body).wpIn Fence.wide n P Q a w := by
  refine wpIn_rangeFunc fun fn _ => ?_
  refine ⟨w.heap.size + 1, [{ target := .collected w.heap.size, args := #[] }], _, { target := .fn (.func gf) lb, args := #[.func (.yield (w.heap.size + 1)) #[] #[]] }, _, gf, _, _, run_enterLoop_outer _ _ _ _ _, ?_, fun _ _ => trivial, hinv _ _, fun h => (by cases h), h fn _ rfl⟩
  simp only [resolve, List.map_toArray, List.map_cons, List.map_nil, hg]
  rfl

/-- The two blocks, just laid. -/
theorem LoopAt.new (w : World) (r : Loop) : LoopAt ((w.alloc (.deferred (some []))).alloc (.loop r)) (w.heap.size + 1) w.heap.size r := by
  refine ⟨?_, ?_, by omega⟩
  · have := World.alloc_heap_new (w.alloc (.deferred (some []))) (.loop r)
    rwa [World.size_alloc] at this
  · exact (Below.heap_alloc _ _ _ (by simp)).trans (World.alloc_heap_new w _)
theorem Kept.putObj (W : World) (l : Nat) (o : Obj) : Kept (fun b => b = l) W (W.putObj l o) :=
  ⟨rfl, rfl, rfl, by simp, fun _ _ hn => World.putObj_heap_other hn⟩
theorem LoopAt.lt {W : World} {l D : Nat} {r : Loop} (h : LoopAt W l D r) : l < W.heap.size := (Array.getElem?_eq_some_iff.1 h.rec_).1
theorem LoopAt.put {W : World} {l D : Nat} {r : Loop} (h : LoopAt W l D r) (r' : Loop) : LoopAt (W.putObj l (.loop r')) l D r' :=
  ⟨World.putObj_heap_same h.lt, (World.putObj_heap_other h.ne_).trans h.def_, h.ne_⟩
/-- The record in a round. -/
def busyRec (r : Loop) : Loop := { r with state := .busy }
theorem LoopAt.begin_ {P : Program} {W : World} {l D : Nat} {r : Loop} (h : LoopAt W l D r) (hr : r.state = .ready) : (Instr.beginRound l).run P W = .ok () (W.putObj l (.loop (busyRec r))) :=
  run_beginRound h.rec_ hr
theorem LoopAt.end_ {P : Program} {W : World} {l D : Nat} {r : Loop} (h : LoopAt W l D (busyRec r)) (hr : r.state = .ready) (hp : r.pending = none) : (Instr.endRound l none).run P W = .ok (.bool true) (W.putObj l (.loop r)) := by
  rw [run_endRound none h.rec_]
  cases r
  simp only at hr hp
  subst hr hp
  rfl
/-- A round that leaves the loop by a jump. -/
def doneRec (r : Loop) (c : Code) : Loop := { r with state := .done, pending := some c }
theorem LoopAt.stop_ {P : Program} {W : World} {l D : Nat} {r : Loop} (c : Code) (h : LoopAt W l D (busyRec r)) : (Instr.endRound l (some c)).run P W = .ok (.bool false) (W.putObj l (.loop (doneRec r c))) := by
  rw [run_endRound (some c) h.rec_]
  rfl
/-- The record behind the loop. -/
def overRec (r : Loop) : Loop := { r with state := .exhausted }
theorem LoopAt.over_ {P : Program} {W : World} {l D : Nat} {r : Loop} (h : LoopAt W l D r) (hr : r.state = .ready) (hp : r.pending = none) : (Instr.endLoop l).run P W = .ok none (W.putObj l (.loop (overRec r))) :=
  (run_endLoop h.rec_ (by rw [hr]; decide)).trans (congrArg (fun p => Result.ok p (W.putObj l (.loop (overRec r)))) hp)
theorem LoopAt.over_done {P : Program} {W : World} {l D : Nat} {r : Loop} {c : Code} (h : LoopAt W l D (doneRec r c)) : (Instr.endLoop l).run P W = .ok (some c) (W.putObj l (.loop (overRec (doneRec r c)))) := by
  rw [run_endLoop h.rec_ (by simp [doneRec])]
  rfl
theorem Kept.takeDef {S : Nat → Prop} {w W : World} (h : Kept S w W) {D : Nat} (hD : w.heap.size ≤ D) : Kept S w (W.putObj D (.deferred none)) :=
  h.then_ (Kept.putObj W D _) fun i hi e => absurd e (by omega)

/-- append of ONE element that lies in a block of its own, inside a fence. -/
theorem listIn_push {F : Fence} {fu : Nat} {P : Program} (w : World) {ops : Array Oper} {rest : List Oper} {o : Oper} {a : Act} {Q : Exit → Act → World → Prop} (hgd : o.guard = none) (s x : Operand) (t : TypeId)
    (ho : o.op = .call { callee := .builtin .append, args := #[s, x], argTypes := #[t, t] })
    (base : Nat) (e : TypeId) (i : TypeInfo) (z : Value) (size bytes : Nat) (ht : P.underlying t = some (.slice e)) (hi : P.info? e = some i) (hz : i.zero = some z)
    (hsize : i.size = size) (hby : i.bytes = bytes) (hzs : z.cells.size = size) (hsz : 0 < size)
    (v : Value) (n : Nat) (xs : List Value) (hs : a.eval s = v) (hown : w.ownsRow base e size v n xs)
    (g0 : Nat) (cs : Array Value) (hx : a.eval x = .slice (some ⟨g0, 0, none⟩) 1 1) (hb : Blk w g0 e cs) (hl : cs.toList.length = 1 * size) (h1 : ∀ u ∈ cs.toList, u.oneCell' = true)
    (hbytes : (n + 1) * bytes ≤ 140737488355328) (hby0 : 0 < bytes) (hbase : base ≤ g0)
    (h : ∀ g cap w', w'.ownsRow base e size (.slice (some ⟨g, 0, none⟩) (n + 1) cap) (n + 1) (xs ++ cs.toList) → w.grownBy w' v.ownBlock → (v.ownBlock = some g ∨ g = w.heap.size) → g < w'.heap.size → wpListIn F fu P ops Q rest (a.put o.dst (.slice (some ⟨g, 0, none⟩) (n + 1) cap)) w') : wpListIn F fu P ops Q (o :: rest) a w := by
  refine wpListIn_plain hgd fun K hK' => ?_
  obtain ⟨g, cap, w', hrun, r1, r2, r3, r4⟩ := run_append_lies (P := P) w t o.type base e i z size bytes ht hi hz hsize hby hzs hsz v n xs hown ⟨g0, 0, none⟩ 1 1 cs.toList hl (World.news_of_block hb) h1 (by omega)
    (by have := Nat.le_mul_of_pos_right (n + 1) hby0; unfold maxLen; omega) hbytes (Nat.le_of_lt (Nat.lt_of_le_of_lt hbase hb.lt)) w.heap.size rfl
  unfold Oper.wpIn
  refine ⟨?_, ?_⟩
  · simp [Oper.about, ho, resolve, Target.leads, Sem.run_pure]
  · rw [Oper.semAt_plain F _ _ (by rw [ho]; intro c hc'; cases hc')]
    simp [execOp, ho, resolve, invoke, builtin, hs, hx, hrun, Result.andThen]
    exact hK' _ _ (h g cap w' r1 r2 r3 r4)
end Go.Proofs.Ythnakfdiikidaaa

/- behind: the function value. -/
namespace Go.Proofs.Ythnakfdiikidaaa
open Go.RowKit Go.Lib

theorem behind_ok {w : World} (A S : Option Addr) (n c m d : Nat) :
    Calls Try.prog 23 #[.slice A n c, .slice S m d] w fun e w' => e = .returned (.func (.func 33) #[] #[.pointer (some ⟨w.heap.size, 0, none⟩), .pointer (some ⟨w.heap.size + 1, 0, none⟩)]) ∧ w' = (w.alloc (.cells #[.slice A n c] 22)).alloc (.cells #[.slice S m d] 22) := by
  go_enter Try.func23, Try.ntmps23
  go_wp2
  go_ret
  exact ⟨rfl, rfl⟩
end Go.Proofs.Ythnakfdiikidaaa

/- behind's iterator. -/
namespace Go.Proofs.Ythnakfdiikidaaa
open Go.RowKit Go.Lib

/-- What behind gathers: a row of its own, or nothing at all. -/
def Gath (w : World) (base : Nat) (v : Value) (rows : List (Option Addr × Nat × List Int)) : Prop :=
  w.ownsRow base 28 1 v rows.length (rows.map encR) ∨ (rows = [] ∧ ∃ A, v = .slice A 0 0)
theorem Gath.kept {S : Nat → Prop} {w w' : World} {base : Nat} {v : Value} {rows : List (Option Addr × Nat × List Int)} (h : Gath w base v rows) (hk : Kept S w w') (hS : ∀ g, base ≤ g → ¬ S g) : Gath w' base v rows :=
  h.imp (fun ho => own_kept ho hk fun g hg => hS g (ho.lt g hg).1) id
theorem Gath.grid {w : World} {base : Nat} {v : Value} {rows : List (Option Addr × Nat × List Int)} (h : Gath w base v rows) (hl : rows.length ≤ 1000000) (hr : ∀ r ∈ rows, Row .i64 w r.1 r.2.2 ∧ (r.1 = none → r.2.1 = 0)) :
    ∃ AA cap, v = .slice AA rows.length cap ∧ Grid w AA rows := by
  rcases h with ho | ⟨rfl, A, rfl⟩
  · rcases Nat.eq_zero_or_pos rows.length with h0 | h0
    · obtain ⟨A, cap, rfl⟩ := own_slice ho
      exact ⟨A, cap, rfl, ⟨hl, .inl h0⟩⟩
    · obtain ⟨g, cap, rfl, _, hg, _⟩ := own_form ho h0
      refine ⟨_, cap, rfl, ⟨hl, .inr ⟨g, 0, rfl, hg, fun k hk => ?_⟩⟩⟩
      have hm := hr rows[k] (List.getElem_mem hk)
      refine ⟨?_, hm.1, hm.2⟩
      have := ho.cells (g := g) rfl k (encR rows[k]) (by rw [List.getElem?_map, List.getElem?_eq_getElem hk]; rfl)
      rw [addr_add] at this
      rw [Nat.zero_add]
      exact this
  · exact ⟨A, 0, rfl, ⟨by simp, .inl rfl⟩⟩
theorem Grid.each {w : World} {A : Option Addr} {rows : List (Option Addr × Nat × List Int)} (h : Grid w A rows) : ∀ r ∈ rows, Row .i64 w r.1 r.2.2 ∧ (r.1 = none → r.2.1 = 0) := by
  intro r hr
  obtain ⟨k, hk, rfl⟩ := List.mem_iff_getElem.1 hr
  obtain ⟨b, off, _, _, hc⟩ := h.at_.resolve_left (by omega)
  exact ⟨(hc k hk).2.1, (hc k hk).2.2⟩

theorem gath_push {w : World} {base : Nat} {v : Value} {rows : List (Option Addr × Nat × List Int)} (h : Gath w base v rows) (t ty : TypeId) (ht : Try.prog.underlying t = some (.slice 28)) (r : Option Addr × Nat × List Int) {g0 : Nat} (hb : Blk w g0 28 #[encR r]) (hl : rows.length + 1 ≤ 1000000) (hbase : base ≤ w.heap.size) :
    ∃ v' w', (Builtin.append_ #[t, t] ty #[v, .slice (some ⟨g0, 0, none⟩) 1 1]).run Try.prog w = .ok v' w' ∧ Gath w' base v' (rows ++ [r]) ∧ Below base w w' := by
  obtain ⟨i0, hi, hz0, hz1, hz2⟩ := info_parts clone_info
  have hnews := World.news_of_block hb
  have h1 : ∀ u ∈ [encR r], u.oneCell' = true := by intro u hu; rw [List.mem_singleton.1 hu]; rfl
  have own : ∀ v0, w.ownsRow base 28 1 v0 rows.length (rows.map encR) → ∃ v' w', (Builtin.append_ #[t, t] ty #[v0, .slice (some ⟨g0, 0, none⟩) 1 1]).run Try.prog w = .ok v' w' ∧ Gath w' base v' (rows ++ [r]) ∧ Below base w w' := by
    intro v0 ho
    obtain ⟨g', cap', w', r1, r2, r3, r4, r5⟩ := run_append_lies (P := Try.prog) w t ty base 28 i0 _ 1 24 ht hi hz0 hz1 hz2 rfl (by decide) v0 rows.length _ ho ⟨g0, 0, none⟩ 1 1 [encR r] rfl hnews h1 (by omega) (by unfold maxLen; omega) (by omega) hbase w.heap.size rfl
    refine ⟨_, w', r1, .inl ?_, Below.grown (Below.refl _ _) r3 hbase (own_base_le ho)⟩
    rw [List.length_append, List.map_append]
    exact r2
  rcases h with ho | ⟨rfl, A, rfl⟩
  · exact own v ho
  · cases A with
    | none => exact own _ (World.ownsRow_nil _ _ _ _)
    | some a =>
      have hr := run_append_grow (P := Try.prog) w t ty 28 i0 _ ht hi hz0 a 0 0 [] (by simp) (fun j u hu => by cases hu) ⟨g0, 0, none⟩ 1 1 [encR r] (by rw [hz1]; rfl) hnews (by omega) (by omega) (growslice_fits (by omega) (by rw [hz2]; decide))
      have hge := grownCap_ge w (0 + 1) 0 28
      have hcm : grownCap w (0 + 1) 0 28 ≤ maxLen := grownCap_le_maxLen w (0 + 1) 0 28 (by unfold maxLen; omega)
      refine ⟨_, _, hr, .inl ⟨rfl, .inr ⟨w.heap.size, _, _, rfl, hbase, heap_alloc_new w.drew _, hge, hcm, ?_, ?_⟩⟩, ?_⟩
      · simp only [Array.size_append, List.size_toArray, size_zeroCells, List.length_nil, List.length_singleton]
        have hzc : (Value.slice none 0 0).cells.size = 1 := rfl
        rw [hzc]
        omega
      · simp
      · exact ⟨rfl, rfl, rfl, by simp, fun k hk => heap_alloc_old w.drew _ (by simpa using Nat.lt_of_lt_of_le hk hbase)⟩

theorem clone_zero {w : World} (A : Option Addr) (cap : Nat) :
    Calls Try.prog 34 #[.slice A 0 cap] w fun e w' => ∃ v, e = .returned v ∧ Gath w' w.heap.size v [] ∧ Below w.heap.size w w' := by
  cases A with
  | none =>
    refine (Try.slices_Clone_nil_f34 0 cap w).mono ?_
    rintro e w' ⟨rfl, rfl⟩
    exact ⟨_, rfl, .inl (World.ownsRow_nil _ _ _ _), Below.refl _ _⟩
  | some a =>
    obtain ⟨i0, hi, hz0, hz1, hz2⟩ := info_parts clone_info
    have he : (w.alloc (.cells #[] 28)).ownsRow w.heap.size 28 1 (.slice (some ⟨w.heap.size, 0, none⟩) 0 0) 0 [] :=
      ⟨rfl, .inr ⟨w.heap.size, 0, #[], rfl, Nat.le_refl _, heap_alloc_new w _, Nat.le_refl _, Nat.zero_le _, rfl, rfl⟩⟩
    have He := Lib.hid he
    have q1 := Lib.run_eql_slice_nil (P := Try.prog) w 22 28 (some a) 0 cap 0 0 Try.underlying22
    simp only [Option.isNone_some] at q1
    clear he
    go_enter Try.func34, Try.ntmps34
    go_wp2_with (at_builtin; refine wpList_plain rfl fun K hK => ?_; go_loud (refine wp_append_own _ (.tmp 5) (.tmp 6) 22 rfl w.heap.size 28 i0 _ 1 24 Try.underlying22 hi hz0 hz1 hz2 rfl (by decide) _ 0 [] rfl He.out a 0 cap [] rfl rfl (fun j u hu => by cases hu) (fun u hu => by cases hu) (by unfold maxLen; omega) (by omega) (by simp) ?_); intro v' w' h2 h3 _; refine hK _ _ ?_; have H2 := Lib.hid h2; have H3 := Lib.hid (Below.grown ((Below.refl _ w).alloc (Nat.le_refl _) _) h3 (by simp) (own_base_le He.out)); clear h2 h3)
    go_ret
    exact ⟨_, rfl, .inl H2.out, H3.out⟩
theorem clone_gath {w : World} {A : Option Addr} {rows : List (Option Addr × Nat × List Int)} (cap : Nat) (h : Grid w A rows) :
    Calls Try.prog 34 #[.slice A rows.length cap] w fun e w' => ∃ v, e = .returned v ∧ Gath w' w.heap.size v rows ∧ Below w.heap.size w w' := by
  rcases Nat.eq_zero_or_pos rows.length with h0 | h0
  · obtain rfl := List.eq_nil_of_length_eq_zero h0
    exact clone_zero A cap
  · refine (clone_grid cap h h0).mono ?_
    rintro e w' ⟨v, rfl, ho, hb⟩
    exact ⟨v, rfl, .inl ho, hb⟩

theorem Gath.alloc {w : World} {base : Nat} {v : Value} {rows : List (Option Addr × Nat × List Int)} (h : Gath w base v rows) (o : Obj) : Gath (w.alloc o) base v rows :=
  h.kept (S := fun _ => False) ((Kept.refl _ w).alloc o) (fun _ _ h => h)
theorem wp_gath {o : Oper} {a : Act} {K : Act → World → Prop} {Q : Exit → Act → World → Prop} (w : World) (s x : Operand) (t : TypeId)
    (ho : o.op = .call { callee := .builtin .append, args := #[s, x], argTypes := #[t, t] })
    (base : Nat) (v : Value) (rows : List (Option Addr × Nat × List Int)) (hs : a.eval s = v) (hga : Gath w base v rows) (r : Option Addr × Nat × List Int) (g0 : Nat) (hx : a.eval x = .slice (some ⟨g0, 0, none⟩) 1 1) (hb : Blk w g0 28 #[encR r])
    (ht : Try.prog.underlying t = some (.slice 28)) (hl : rows.length + 1 ≤ 1000000) (hbase : base ≤ w.heap.size)
    (h : ∀ v' w', Gath w' base v' (rows ++ [r]) → Below base w w' → K (a.put o.dst v') w') : o.wp Try.prog a w K Q := by
  obtain ⟨v', w', hr, h2, h3⟩ := gath_push hga t o.type ht r hb hl hbase
  unfold Oper.wp execOp
  simp only [ho, resolve, invoke, builtin, Sem.run_bind, Sem.run_pure, Result.andThen_ok, List.map_toArray, List.map_cons, List.map_nil, hs, hx, hr]
  exact h v' w' h2 h3
theorem list_gath {ops : Array Oper} {rest : List Oper} {o : Oper} {a : Act} {Q : Exit → Act → World → Prop} (w : World) (hgd : o.guard = none) (s x : Operand) (t : TypeId)
    (ho : o.op = .call { callee := .builtin .append, args := #[s, x], argTypes := #[t, t] })
    (base : Nat) (v : Value) (rows : List (Option Addr × Nat × List Int)) (hs : a.eval s = v) (hga : Gath w base v rows) (r : Option Addr × Nat × List Int) (g0 : Nat) (hx : a.eval x = .slice (some ⟨g0, 0, none⟩) 1 1) (hb : Blk w g0 28 #[encR r])
    (ht : Try.prog.underlying t = some (.slice 28)) (hl : rows.length + 1 ≤ 1000000) (hbase : base ≤ w.heap.size)
    (h : ∀ v' w', Gath w' base v' (rows ++ [r]) → Below base w w' → wpList Try.prog ops Q rest (a.put o.dst v') w') : wpList Try.prog ops Q (o :: rest) a w :=
  wpList_plain hgd fun _ hK => wp_gath w s x t ho base v rows hs hga r g0 hx hb ht hl hbase fun v' w' h2 h3 => hK _ _ (h v' w' h2 h3)

theorem row_at (L S : List (Option Addr × Nat × List Int)) {k : Nat} (h : k < S.length) (i : Int) :
    rowM (rowsOf (L ++ S.take k)) (rowsOf (S.drop k)) i = if followsM (rowsOf (L ++ S.take k)) S[k].2.2 = true then rowM (rowsOf (L ++ S.take (k + 1))) (rowsOf (S.drop (k + 1))) (i + 1) else i := by
  rw [List.drop_eq_getElem_cons h]
  show rowM _ (S[k].2.2 :: rowsOf (S.drop (k + 1))) i = _
  rw [row_cons]
  have : rowsOf (L ++ S.take (k + 1)) = rowsOf (L ++ S.take k) ++ [S[k].2.2] := by
    rw [List.take_succ_eq_append_getElem h, ← List.append_assoc]
    unfold rowsOf
    rw [List.map_append (l₂ := [S[k]])]
    rfl
  rw [this]

set_option maxHeartbeats 2000000 in
theorem behind_iter (l b1 b2 base : Nat) (L S : List (Option Addr × Nat × List Int)) (LA SA : Option Addr) (cl cs : Nat) (X Z : Nat → World → Prop)
    (hL : L.length ≤ 1000) (hS : S.length ≤ 1000)
    (hX : ∀ k W W', X k W → Below base W W' → X k W')
    (hXg : ∀ k W, X k W → Grid W LA L ∧ Grid W SA S ∧ Blk W b1 22 #[.slice LA L.length cl] ∧ Blk W b2 22 #[.slice SA S.length cs] ∧ base ≤ W.heap.size)
    (hY : ∀ (k : Nat) (W : World) (AA : Option Addr) (cap : Nat) (hk : k < S.length), X k W → Grid W AA (L ++ S.take k) →
      ∃ fn tmps assign body, (Instr.yield l #[.slice AA (L ++ S.take k).length cap, encR S[k]]).run Try.prog W = .ok (.round l fn tmps assign body) W ∧
        RoundIn Fence.wide 0 Try.prog l fn tmps assign body W fun e W' =>
          (followsM (rowsOf (L ++ S.take k)) S[k].2.2 = true → e = .returned (.bool true) ∧ X (k + 1) W' ∧ Kept (fun b => b < base) W W') ∧
          (followsM (rowsOf (L ++ S.take k)) S[k].2.2 = false → e = .returned (.bool false) ∧ Z k W'))
    (w : World) (hb : w.heap.size = base) (hx0 : X 0 w) :
    Calls Try.prog 33 #[.func (.yield l) #[] #[], .pointer (some ⟨b1, 0, none⟩), .pointer (some ⟨b2, 0, none⟩)] w fun e W' => e = .returned (.tuple #[]) ∧
      ((rowM (rowsOf L) (rowsOf S) 0 = -1 ∧ X S.length W') ∨ ∃ k, k < S.length ∧ rowM (rowsOf L) (rowsOf S) 0 = k ∧ Z k W') := by
  obtain ⟨hgL, hgS, hb1, hb2, _⟩ := hXg 0 w hx0
  have c1 := hb1.cell 0
  have c2 := hb2.cell 0
  simp only [List.getElem?_toArray, List.getElem?_cons_zero] at c1 c2
  have hlt2 : b2 < base := hb ▸ hb2.lt
  have HX := Lib.hid hX
  have HXg := Lib.hid hXg
  have HY := Lib.hid hY
  have Hx0 := Lib.hid hx0
  have K1 := clone_gath cl hgL
  rw [hb] at K1
  clear hX hXg hY hx0 hgL hgS
  go_enter Try.func33, Try.ntmps33
  go_wp2_with (go_at_call 34; (with_reducible refine K1.mono ?_); rintro e w1 ⟨v1, rfl, ho1, hbl1⟩; have Ho1 := Lib.hid ho1; have c3 := (hbl1.cell (p := ⟨b2, 0, none⟩) hlt2).trans c2; have Hb1 := Lib.hid hbl1; clear ho1 hbl1)
  go_loopw [11, 4] (fun vi va wr => ∃ k : Nat, k ≤ S.length ∧ vi = .int .i64 k ∧ Gath wr base va (L ++ S.take k) ∧ X k wr ∧ rowM (rowsOf L) (rowsOf S) 0 = rowM (rowsOf (L ++ S.take k)) (rowsOf (S.drop k)) k) (fun vi _ _ => (S.length - intOf vi).toNat)
  case atStart => exact ⟨0, Nat.zero_le _, rfl, by rw [List.take_zero, List.append_nil]; exact Ho1.out, HX.out _ _ _ Hx0.out Hb1.out, by rw [List.take_zero, List.append_nil, List.drop_zero]; rfl⟩
  case round =>
    obtain ⟨k, hk, rfl, hga, hx, hrow⟩ := hrel
    obtain ⟨hgL, hgS, hc1, hc2, hbs⟩ := HXg.out k _ hx
    have Hx := Lib.hid hx
    have Hga := Lib.hid hga
    have Hrow := Lib.hid hrow
    by_cases hlt : k < S.length
    · have d1 : decide ((k : Int) < S.length) = true := by simp; omega
      obtain ⟨b, off, hA, hbb, hcell⟩ := hgS.at_.resolve_left (by omega)
      subst hA
      have y0 := (hcell k hlt).1
      have hlt3 : (L ++ S.take k).length ≤ 1000000 := by rw [List.length_append, List.length_take]; omega
      obtain ⟨AA, ca, rfl, hgr⟩ := hga.grid hlt3 (fun r hr => by
        rcases List.mem_append.1 hr with h1 | h1
        · exact hgL.each r h1
        · exact hgS.each r (List.mem_of_mem_take h1))
      obtain ⟨fn, tmps, assign, body, hyield, hround⟩ := HY.out k _ AA ca hlt hx hgr
      have hra := row_at L S hlt k
      have Hra := Lib.hid hra
      have Hgr := Lib.hid hgr
      clear hx hga hrow hgL hgS hc1 hc2 hcell hra hgr hlt3
      unfold encR at hyield
      have X1 := Lib.hid (show (L ++ S.take k) ++ [S[k]] = L ++ S.take (k + 1) by rw [List.take_succ_eq_append_getElem hlt, List.append_assoc])
      have X2 := Lib.hid (show (L ++ S.take k).length + 1 ≤ 1000000 by rw [List.length_append, List.length_take]; omega)
      generalize L ++ S.take k = G at *
      generalize S[k] = sk at *
      have Hround := Lib.hid hround
      clear hround
      by_cases hf : followsM (rowsOf G) sk.2.2 = true
      · have Hf := Lib.hid hf
        have hround := Hround.out
        rw [hf] at hround
        clear hf
        go_upto_region 4 with (fail)
        refine (wpIn_wide (n := 1)).1 ?_
        gi_wp2
        refine hround.mono ?_
        rintro e W5 ⟨h5, _⟩
        obtain ⟨rfl, hx5, hk5⟩ := h5 (by simp)
        have Hx5 := Lib.hid hx5
        obtain ⟨_, _, _, _, hbs5⟩ := HXg.out _ _ hx5
        have Hga5 := Lib.hid (Hga.out.kept hk5 (fun g hg hc => by omega))
        clear hx5 hk5
        gi_wp2
        go_wp2_with (at_builtin; go_loud (refine list_gath _ rfl (.tmp 20) (.tmp 22) 22 rfl base _ G rfl (Hga5.out.alloc _) sk W5.heap.size rfl (Blk.new W5 _ _) Try.underlying22 X2.out (by simp; omega) ?_); intro v6 w6 hg6 hb6; have HG6 := Lib.hid hg6; have HB6 := Lib.hid (Below.trans ((Below.refl _ W5).alloc hbs5 _) hb6); clear hg6 hb6)
        go_roundw
        case rel =>
          refine ⟨k + 1, by omega, by go_num, by rw [← X1.out]; exact HG6.out, HX.out _ _ _ Hx5.out HB6.out, ?_⟩
          rw [Hrow.out, Hra.out, if_pos Hf.out]
          rfl
        case measure => simp only [intOf]; omega
      · have hf := Bool.eq_false_iff.2 hf
        have Hf := Lib.hid hf
        have hround := Hround.out
        rw [hf] at hround
        clear hf
        go_upto_region 4 with (fail)
        refine (wpIn_wide (n := 1)).1 ?_
        gi_wp2
        refine hround.mono ?_
        rintro e W5 ⟨_, h5⟩
        obtain ⟨rfl, hz5⟩ := h5 (by simp)
        have HZ5 := Lib.hid hz5
        clear hz5
        gi_wp2
        go_wp2
        refine bodyPost_ret (v := .tuple #[]) (by simp [results, Try.results33, go_sem]) rfl ?_
        exact ⟨rfl, .inr ⟨k, hlt, by rw [Hrow.out, Hra.out, if_neg (by rw [Hf.out]; simp)], HZ5.out⟩⟩
    · obtain rfl : k = S.length := by omega
      have d1 : decide ((S.length : Int) < S.length) = false := by simp
      clear hx hga hrow hgL hgS
      go_wp2
      go_end0
      refine ⟨rfl, .inl ⟨?_, Hx.out⟩⟩
      rw [Hrow.out, List.drop_length]
      rfl
end Go.Proofs.Ythnakfdiikidaaa

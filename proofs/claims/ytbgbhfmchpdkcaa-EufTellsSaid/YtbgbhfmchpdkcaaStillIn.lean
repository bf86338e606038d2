/- A region that draws its order, whose head only reads, inside a round's fence. -/
import Derived.Test.YtbgbhfmchpdkcaaPaths
import Derived.StillTailTactics
import Derived.OrdersIn
import Derived.OwnWalkIn
namespace Go.Proofs.Ytbgbhfmchpdkcaa
open Go.RowKit

/-- The operations of which none is a call. -/
def readsOp : Op → Bool
  | .move _ | .assign _ | .load _ _ | .nilCheck _ | .fieldAddr _ _ _ | .lookup _ _ _ _ | .slice _ _ _ _ _ | .binOp _ _ _ _ _ | .unOp _ _ _ | .build _ _ | .indexAddr _ _ _ | .index _ _ _ | .extract _ _ | .field _ _ _ => true
  | _ => false
theorem map_no_enter {P : Program} {w : World} (s : Sem Value) (f : FuncId) (args : Array Value) (w' : World) : Sem.run P (do let v ← s; pure (Next.value v)) w ≠ .ok (.enter f args) w' := by
  rw [Sem.run_bind]
  cases Sem.run P s w with
  | ok v w1 => simp [Result.andThen]
  | halt h w1 => simp [Result.andThen]
theorem reads_no_enter {P : Program} {o : Oper} (h : readsOp o.op = true) (ρ : Operand → Value) (w : World) (f : FuncId) (args : Array Value) (w' : World) : (execOp ρ o).run P w ≠ .ok (.enter f args) w' := by
  by_cases hn : ∃ x, o.op = .nilCheck x
  · obtain ⟨x, hx⟩ := hn
    unfold execOp
    rw [hx]
    dsimp only
    split
    · simp [runtimePanic]
    · simp [runtimePanic]
    · simp [runtimePanic]
    · split
      · simp [runtimePanic]
      · rw [Sem.run_bind]
        cases Sem.run P program w with
        | halt hh w1 => simp [Result.andThen]
        | ok p w1 =>
          simp only [Result.andThen]
          rw [Sem.run_bind]
          cases Sem.run P (nilAhead _ _ _ _) w1 with
          | halt hh w2 => simp [Result.andThen]
          | ok b w2 =>
            simp only [Result.andThen]
            split
            · simp [unsupported, Result.andThen]
            · simp
      · simp
    · simp
  · unfold execOp
    cases ho : o.op <;> rw [ho] at h <;> first | (simp [readsOp] at h; done) | skip
    all_goals first
      | exact map_no_enter _ _ _ _
      | (simp; done)
      | exact absurd ⟨_, ho⟩ hn

section
variable {F : Fence} {m : Nat} {P : Program} {ops : Array Oper} {md : Region.Mode} {w : World}
theorem Oper.wpIn_of_still {o : Oper} {a : Act} {K : Act → Prop} {K' : Act → World → Prop} {Q' : Exit → Act → World → Prop} (hF : ∀ f, F.fn f) (hp : readsOp o.op = true) (h : ∀ a, K a → K' a w) (hh : o.still P a w K) : o.wpIn F m P a w K' Q' := by
  refine ⟨fun f _ => hF f, ?_⟩
  rw [Oper.semAt_plain F _ _ (fun c hc => by rw [hc] at hp; simp [readsOp] at hp)]
  unfold Oper.still at hh
  have hne := reads_no_enter (P := P) hp a.eval w
  generalize (execOp a.eval o).run P w = r at *
  cases r with
  | ok n w' =>
    cases n <;> simp only [Oper.stillUpon] at hh <;> simp only [Oper.uponIn]
    case enter f args => exact absurd rfl (hne f args w')
    all_goals (obtain ⟨rfl, h2⟩ := hh; exact h _ h2)
  | halt x w' => simp only [Oper.stillUpon] at hh
theorem wpOpIn_of_stOp {i : Nat} {a : Act} {K : Act → Prop} {K' : Act → World → Prop} {Q' : Exit → Act → World → Prop} (hF : ∀ f, F.fn f) (hp : ∀ o, ops[i]? = some o → readsOp o.op = true) (h : ∀ a, K a → K' a w) (hh : stOp P ops w i K a) : wpOpIn F m P ops Q' i K' a w := by
  unfold stOp at hh
  unfold wpOpIn
  split
  · rename_i ho; simp only [ho] at hh; exact h _ hh
  · rename_i o ho
    simp only [ho] at hh
    split
    · rename_i hw; simp only [hw, if_true] at hh; exact Oper.wpIn_of_still hF (hp o ho) h hh
    · rename_i hw; simp only [hw] at hh; exact ⟨fun f _ => hF f, h _ hh⟩
theorem wpAnyIn_of_head {n g : Nat} {L : Array Bool → Act → Prop} {Q' : Exit → Act → World → Prop} (hF : ∀ f, F.fn f) (hp : ∀ (i : Nat) o, i < n → ops[i]? = some o → readsOp o.op = true) (hL : ∀ listed a, L listed a → wpAnyIn F m P md ops Q' g listed a w) :
    ∀ (f : Nat) (listed : Array Bool) (a : Act), wpAnyL P md ops w n L f listed a → wpAnyIn F m P md ops Q' (f + g) listed a w
  | 0, listed, a, h => by rw [Nat.zero_add]; exact hL _ _ h
  | f + 1, listed, a, h => by
    rw [show f + 1 + g = (f + g) + 1 by omega]
    exact ⟨fun h0 => absurd h0 h.1, fun i hi => wpOpIn_of_stOp hF (fun o ho => hp i o (h.2 i hi).1 ho) (fun a' h' => wpAnyIn_of_head hF hp hL f _ a' h') (h.2 i hi).2⟩
theorem wpAnyIn_of_seq {Q' : Exit → Act → World → Prop} : ∀ (l : List Oper) (k : Nat) (listed : Array Bool) (a : Act) (w : World), (∀ j, l[j]? = ops[k + j]?) →
    Region.seqB md ops l.length k listed = true → wpListIn F m P ops Q' l a w → wpAnyIn F m P md ops Q' l.length listed a w
  | [], _, _, _, _, _, hB, h => ⟨by simpa [Region.seqB] using hB, h⟩
  | o :: l, k, listed, a, w, hl, hB, h => by
    have h0 : ops[k]? = some o := by simpa using (hl 0).symm
    simp only [List.length_cons, Region.seqB, Bool.and_eq_true, decide_eq_true_eq] at hB
    refine ⟨fun h1 => (by rw [hB.1] at h1; cases h1), fun i hi => ?_⟩
    rw [hB.1] at hi
    have hik : i = k := by simpa using hi
    subst hik
    have hw : wpOpIn F m P ops Q' i (wpListIn F m P ops Q' l) a w := by unfold wpOpIn; simp only [h0]; exact h
    exact wpOpIn_mono (fun a' w' h' => wpAnyIn_of_seq l (i + 1) _ a' w' (fun j => by have := hl (j + 1); simpa [Nat.add_assoc, Nat.add_comm 1 j] using this) hB.2 h') hw

/-- The fenced twin of wp_region_still_tail. -/
theorem wpIn_region_still_tail {id : Nat} {Q : Exit → Act → World → Prop} {a : Act} {l : List Oper} (hF : ∀ f, F.fn f) (n : Nat) (hm : P.follows .mixedOrders = true) (hB : Region.lexTailB .any l.toArray n = true) (hp : (l.take n).all (fun o => readsOp o.op) = true)
    (h : wpStill P l.toArray { w with drawn := w.drawn + 1 } (fun a' => wpListIn F m P l.toArray Q (l.drop n) a' { w with drawn := w.drawn + 1 }) (l.take n) a) : (Code.region id l.toArray true).wpIn F m P Q a w := by
  simp only [Region.lexTailB, Bool.and_eq_true, decide_eq_true_eq] at hB
  obtain ⟨⟨⟨⟨hsel, hn⟩, hs⟩, hc⟩, hlex⟩ := hB
  have hn' : n < l.length := by simpa using hn
  have htl : (l.take n).length = n := by simp; omega
  have hdl : (l.drop n).length = l.toArray.size - n := by simp
  have inv0 : HeadInv .any l.toArray n (Array.replicate l.toArray.size false) :=
    ⟨by simp, fun j oj _ hl => (by rw [getD_replicate_false] at hl; cases hl), fun t _ ht => getD_in (by simpa using ht) (getD_replicate_false _ _)⟩
  have H := wpAnyL_lex (md := .any) (g := l.toArray.size - n) hsel hs hc hn (l.take n) 0 _ a (fun j hj => by
    have hj' : j < n := by rw [htl] at hj; exact hj
    simp [hj']) (by simpa using htl) inv0 (by rw [htl]; exact hlex) h
  have hp' : ∀ (i : Nat) o, i < n → l.toArray[i]? = some o → readsOp o.op = true := fun i o hi ho =>
    List.all_eq_true.1 hp o (List.mem_of_getElem? (i := i) (by rw [List.getElem?_take_of_lt hi]; simpa using ho))
  refine wpIn_region_any hm ?_
  have := wpAnyIn_of_head (m := m) (Q' := Q) (g := l.toArray.size - n) hF hp' (fun listed a' hL => by
    have := wpAnyIn_of_seq (md := .any) (F := F) (m := m) (Q' := Q) (l.drop n) n listed a' { w with drawn := w.drawn + 1 } (fun j => by simp [List.getElem?_drop]) (by rw [hdl]; exact hL.1) hL.2
    rwa [hdl] at this) _ _ _ H
  rw [htl, show n + (l.toArray.size - n) = l.toArray.size by omega] at this
  exact this
theorem still_slice {P : Program} {ops : Array Oper} {w : World} {Q : Act → Prop} {a : Act} {o : Oper} {rest : List Oper} {t : TypeId} {x : Operand} {lo hi mx : Option Operand} (ho : o.op = .slice t x lo hi mx) (hgd : o.guard = none) {v : Value}
    (h : (Instr.sliceAt t (a.eval x) (lo.map a.eval) (hi.map a.eval) (mx.map a.eval)).run P w = .ok v w) (hK : wpStill P ops w Q rest (a.put o.dst v)) : wpStill P ops w Q (o :: rest) a := by
  unfold wpStill
  have hw : Region.wanted o (yielded ops a.tmps) = true := by simp [Region.wanted, hgd]
  rw [if_pos hw]
  unfold Oper.still execOp
  simp only [ho, Sem.run_bind, h, Result.andThen_ok, Sem.run_pure, Oper.stillUpon]
  exact ⟨trivial, hK⟩
/-- x[:u:u]. -/
theorem run_slice3 {P : Program} {t e : TypeId} {i : TypeInfo} (ht : P.underlying t = some (.slice e)) (hi : P.info? e = some i) (g len cap u : Nat) (hu : u ≤ cap) (w : World) :
    (Instr.sliceAt t (.slice (some ⟨g, 0, none⟩) len cap) none (some (.int .i64 (u : Int))) (some (.int .i64 (u : Int)))).run P w = .ok (.slice (some ⟨g, 0, none⟩) u u) w := by
  have h1 : (0 : Int) ≤ u ∧ (u : Int) ≤ cap := by omega
  unfold Instr.sliceAt
  simp only [Sem.run_bind, run_underlying ht, Result.andThen_ok]
  unfold Instr.slice
  simp [run_underlying ht, Instr.sliceBounds, Instr.sliceBound, asIntOf, h1, sizeOf, typeInfo, hi, Result.andThen]
  rw [if_pos hu]
  simp only []
  rw [if_pos (Nat.le_refl u)]
  simp only [addr_add, ite_self]
theorem run_slice3' {P : Program} {t e : TypeId} {i : TypeInfo} (ht : P.underlying t = some (.slice e)) (hi : P.info? e = some i) (A : Option Addr) (hA : A = none ∨ ∃ g, A = some ⟨g, 0, none⟩) (len cap u : Nat) (hu : u ≤ cap) (w : World) :
    (Instr.sliceAt t (.slice A len cap) none (some (.int .i64 (u : Int))) (some (.int .i64 (u : Int)))).run P w = .ok (.slice A u u) w := by
  rcases hA with rfl | ⟨g, rfl⟩
  · have h1 : (0 : Int) ≤ u ∧ (u : Int) ≤ cap := by omega
    unfold Instr.sliceAt
    simp only [Sem.run_bind, run_underlying ht, Result.andThen_ok]
    unfold Instr.slice
    simp [run_underlying ht, Instr.sliceBounds, Instr.sliceBound, asIntOf, h1, sizeOf, typeInfo, hi, Result.andThen]
    rw [if_pos hu]
    simp only []
    rw [if_pos (Nat.le_refl u)]
  · exact run_slice3 ht hi g len cap u hu w
end
end Go.Proofs.Ytbgbhfmchpdkcaa

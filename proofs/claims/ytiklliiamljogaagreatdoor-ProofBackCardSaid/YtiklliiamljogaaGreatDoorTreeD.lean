/- The reference's Next, whole. -/
import Derived.Test.YtiklliiamljogaaGreatDoorRefG
import Derived.Test.YtiklliiamljogaaGreatDoorClA
import Derived.TacticsIn
import Derived.BigFrameIn
import Derived.RegionIn
import Derived.LoopIn
import Derived.OwnWalkIn
import Derived.RangeFuncRecord
import Derived.RangeFuncLeaves
import Derived.Test.YtiklliiamljogaaGreatDoorRefE
namespace Go.Proofs.YtiklliiamljogaaGreatDoor
open Go.RowKit

theorem byts_ext (s : ByteArray) (i k : Nat) : byts (s.extract i (i + k)) = ((byts s).drop i).take k := by
  rw [byts, Lib.extract_data, Nat.add_sub_cancel_left]
theorem qat_le : ∀ {r : List UInt8} {q : Nat}, qat r = some q → q ≤ r.length
  | [], q, h => by simp [qat] at h
  | c :: r, q, h => by
    unfold qat at h
    split at h
    · injection h with h; subst h; exact Nat.zero_le _
    · split at h
      · obtain ⟨q', h1, rfl⟩ := Option.map_eq_some_iff.1 h
        have := qat_le h1
        rw [List.length_cons]
        omega
      · cases h
theorem rnext_ok (s : ByteArray) (a : Int) (w : World) (hs : s.size ≤ 1000000) :
    Calls Tryz.prog 93 #[.string s, .int .i64 a] w fun e w' => NextIs (byts s) (startI s a) e ∧ Below w.heap.size w w' := by
  have hle := startI_le s a
  by_cases hn0 : startI s a = s.size
  · exact (rnext_end s a w hs hn0).mono fun e w' h => ⟨.inl ⟨byts_end (by omega), h.1⟩, h.2⟩
  obtain ⟨n, hst⟩ : ∃ n, startI s a = n := ⟨_, rfl⟩
  rw [hst] at hn0 hle ⊢
  have hn : n < s.size := by omega
  have hd := byts_drop hn
  have hne : (byts s).drop n ≠ [] := by rw [hd]; simp
  have ht : tok ((byts s).drop n) = match byN (s[n]'hn).toNat with
    | 0 => raw 0 [] 1
    | 1 => raw 1 [] 1
    | 2 => tokBar ((byts s).drop (n + 1))
    | 3 => tokKey ((byts s).drop (n + 1))
    | 4 => tokNum ((byts s).drop n)
    | 5 => tokName ((byts s).drop n)
    | _ => none := by rw [hd]; rfl
  have no : ∀ {e : Ending} {w' : World}, tok ((byts s).drop n) = none → (e = .returned (.tuple #[.agg #[.int .i8 0, .string ⟨#[]⟩, .int .i64 n, .int .i64 0], .bool false, .int .i64 20]) ∧ Below w.heap.size w w') → NextIs (byts s) n e ∧ Below w.heap.size w w' := fun h1 h2 => ⟨.inr (.inl ⟨hne, h1, h2.1⟩), h2.2⟩
  have yes : ∀ {e : Ending} {w' : World} (r : Raw) (t : ByteArray), tok ((byts s).drop n) = some r → byts t = r.t → (e = .returned (.tuple #[.agg #[.int .i8 r.k, .string t, .int .i64 n, .int .i64 (n + r.n)], .bool true, .int .i64 0]) ∧ Below w.heap.size w w') → NextIs (byts s) n e ∧ Below w.heap.size w w' := fun r t h1 h2 h3 => ⟨.inr (.inr ⟨r, t, h1, h2, h3.1⟩), h3.2⟩
  have hlen : ((byts s).drop n).length = s.size - n := by rw [List.length_drop, byts_len]
  have hlen1 : ((byts s).drop (n + 1)).length = s.size - (n + 1) := by rw [List.length_drop, byts_len]
  by_cases h40 : (s[n]'hn).toNat = 40
  · rw [h40] at ht
    exact (rnext_open s a w n hs hst hn h40).mono fun e w' h => yes ⟨0, [], 1⟩ ⟨#[]⟩ ht rfl h
  by_cases h41 : (s[n]'hn).toNat = 41
  · rw [h41] at ht
    exact (rnext_close s a w n hs hst hn h41).mono fun e w' h => yes ⟨1, [], 1⟩ ⟨#[]⟩ ht rfl h
  by_cases h124 : (s[n]'hn).toNat = 124
  · rw [h124] at ht
    have ht2 : tok ((byts s).drop n) = tokBar ((byts s).drop (n + 1)) := ht
    rw [tokBar_qat] at ht2
    cases hq : qat ((byts s).drop (n + 1)) with
    | none =>
      rw [hq] at ht2
      exact (rnext_bar_no s a w n hs hst hn h124 hq).mono fun e w' h => no ht2 h
    | some q =>
      rw [hq] at ht2
      dsimp only at ht2
      have hql : q ≤ ((byts s).drop (n + 1)).length := by
        have h := tokBar_qat ((byts s).drop (n + 1))
        exact qat_le hq
      unfold raw at ht2
      rw [List.length_take, Nat.min_eq_left hql] at ht2
      by_cases h100 : q ≤ 100
      · rw [if_pos h100] at ht2
        exact (rnext_bar s a w n hs hst hn h124 q hq h100).mono fun e w' h => yes ⟨2, ((byts s).drop (n + 1)).take q, q + 2⟩ (s.extract (n + 1) (n + 1 + q)) ht2 (byts_ext s (n + 1) q) ⟨h.1.trans (by rw [show ((n + 1 + q + 1 : Nat) : Int) = (n : Int) + ((q + 2 : Nat) : Int) by omega]; rfl), h.2⟩
      · rw [if_neg h100] at ht2
        exact (rnext_bar_long s a w n hs hst hn h124 q hq (by omega)).mono fun e w' h => no ht2 h
  by_cases h58 : (s[n]'hn).toNat = 58
  · rw [h58] at ht
    have ht2 : tok ((byts s).drop n) = tokKey ((byts s).drop (n + 1)) := ht
    have hsl := signs_le ((byts s).drop (n + 1))
    obtain ⟨p, hp⟩ : ∃ p, (signs ((byts s).drop (n + 1))).length = p := ⟨_, rfl⟩
    unfold tokKey at ht2
    by_cases hp0 : p = 0
    · rw [if_pos (List.eq_nil_of_length_eq_zero (by omega))] at ht2
      exact (rnext_key_no s a w n hs hst hn h58 p hp hp0).mono fun e w' h => no ht2 h
    · rw [if_neg (fun e => hp0 (by rw [← hp, e]; rfl))] at ht2
      unfold raw at ht2
      rw [hp] at ht2
      by_cases h100 : p ≤ 100
      · rw [if_pos h100] at ht2
        exact (rnext_key s a w n hs hst hn h58 p hp (by omega) h100 (by omega)).mono fun e w' h => yes ⟨4, signs ((byts s).drop (n + 1)), p + 1⟩ (s.extract (n + 1) (n + 1 + p)) ht2 (by rw [byts_ext, ← hp]; exact take_signs _) ⟨h.1.trans (by rw [show (n : Int) + 1 + p = (n : Int) + ((p + 1 : Nat) : Int) by omega]; rfl), h.2⟩
      · rw [if_neg h100] at ht2
        exact (rnext_key_long s a w n hs hst hn h58 p hp (by omega) (by omega)).mono fun e w' h => no ht2 h
  obtain ⟨m, hm⟩ : ∃ m, (signs ((byts s).drop n)).length = m := ⟨_, rfl⟩
  have hsl := signs_le ((byts s).drop n)
  have hby : byN (s[n]'hn).toNat = if digitN (s[n]'hn).toNat then 4 else if signN (s[n]'hn).toNat then 5 else 6 := by
    unfold byN
    rw [if_neg h40, if_neg h41, if_neg h124, if_neg h58]
  have hx8 := (s[n]'hn).toNat_lt
  have hds : digitN (s[n]'hn).toNat = true → signN (s[n]'hn).toNat = true := fun h => digit_sign ⟨(s[n]'hn).toNat, hx8⟩ (by show byN (s[n]'hn).toNat = 4; rw [hby, if_pos h])
  have hsd := signs_drop hn
  cases hsg : signN (s[n]'hn).toNat with
  | false =>
    have hdg : digitN (s[n]'hn).toNat = false := by
      cases h : digitN (s[n]'hn).toNat with
      | false => rfl
      | true => rw [hds h] at hsg; cases hsg
    rw [hby, hdg, hsg] at ht
    rw [hsg] at hsd
    have hm0 : m = 0 := by rw [← hm, hsd]; rfl
    exact (rnext_none s a w n hs hst hn h40 h41 h124 h58 _ rfl m hm hm0).mono fun e w' h => no ht h
  | true =>
    rw [hsg] at hsd
    have hm0 : 0 < m := by rw [← hm, hsd]; simp
    have hex : byts (s.extract n (n + m)) = signs ((byts s).drop n) := by rw [byts_ext, ← hm]; exact take_signs _
    by_cases h100 : m ≤ 100
    · cases hdg : digitN (s[n]'hn).toNat with
      | false =>
        rw [hby, hdg, hsg] at ht
        have ht2 : tok ((byts s).drop n) = tokName ((byts s).drop n) := ht
        unfold tokName raw at ht2
        dsimp only at ht2
        rw [hm, if_pos h100] at ht2
        exact (rnext_name s a w n hs hst hn h40 h41 h124 h58 _ rfl m hm hdg hm0 h100 (by omega)).mono fun e w' h => yes ⟨2, signs ((byts s).drop n), m⟩ (s.extract n (n + m)) ht2 hex h
      | true =>
        rw [hby, hdg] at ht
        have ht2 : tok ((byts s).drop n) = tokNum ((byts s).drop n) := ht
        unfold tokNum raw at ht2
        dsimp only at ht2
        rw [hm, if_pos h100, ← hex] at ht2
        obtain ⟨nu, hnu⟩ : ∃ nu, (((byts (s.extract n (n + m))).all fun c => digitN c.toNat) && (byts (s.extract n (n + m)) == [48] || headB (byts (s.extract n (n + m))) != 48)) = nu := ⟨_, rfl⟩
        rw [hnu] at ht2
        cases hnn : nu with
        | false =>
          rw [hnn] at ht2
          exact (rnext_num_no s a w n hs hst hn h40 h41 h124 h58 _ rfl m hm hdg hm0 h100 (by omega) nu hnu hnn).mono fun e w' h => no ht2 h
        | true =>
          rw [hnn] at ht2
          exact (rnext_num s a w n hs hst hn h40 h41 h124 h58 _ rfl m hm hdg hm0 h100 (by omega) nu hnu hnn).mono fun e w' h => yes ⟨3, byts (s.extract n (n + m)), m⟩ (s.extract n (n + m)) ht2 rfl h
    · have hno : tok ((byts s).drop n) = none := by
        rw [ht, hby]
        cases hdg : digitN (s[n]'hn).toNat with
        | false =>
          rw [if_neg (by decide), hsg, if_pos rfl]
          show tokName ((byts s).drop n) = none
          unfold tokName raw
          dsimp only
          rw [hm, if_neg h100]
        | true =>
          rw [if_pos rfl]
          show tokNum ((byts s).drop n) = none
          unfold tokNum raw
          dsimp only
          rw [hm, if_neg h100]
          split <;> rfl
      exact (rnext_long s a w n hs hst hn h40 h41 h124 h58 _ rfl m hm (by omega) (by omega)).mono fun e w' h => no hno h
end Go.Proofs.YtiklliiamljogaaGreatDoor

/- Expressions as trees, and as they lie in memory. -/
namespace Go.Proofs.YtiklliiamljogaaGreatDoor
open Go.RowKit

inductive Sx where
  | mk (k : Int) (t : List UInt8) (l : List Sx) : Sx
def Sx.kind : Sx → Int | .mk k _ _ => k
def Sx.text : Sx → List UInt8 | .mk _ t _ => t
def Sx.kids : Sx → List Sx | .mk _ _ l => l

mutual
def Sx.depth : Sx → Nat
  | .mk k _ l => if k = 3 then Sx.depths l + 1 else 0
def Sx.depths : List Sx → Nat
  | [] => 0
  | x :: r => max x.depth (Sx.depths r)
end
mutual
def Sx.same : Sx → Sx → Bool
  | .mk k t l, .mk k' t' l' => (k == k') && ((t == t') && Sx.sames l l')
def Sx.sames : List Sx → List Sx → Bool
  | [], [] => true
  | x :: r, y :: s => x.same y && Sx.sames r s
  | _, _ => false
end
mutual
theorem Sx.same_eq : ∀ (x y : Sx), x.same y = true ↔ x = y
  | .mk k t l, .mk k' t' l' => by
    unfold Sx.same
    rw [Bool.and_eq_true, Bool.and_eq_true, beq_iff_eq, beq_iff_eq, Sx.sames_eq l l']
    constructor
    · rintro ⟨rfl, rfl, rfl⟩; rfl
    · intro h; injection h with h1 h2 h3; exact ⟨h1, h2, h3⟩
theorem Sx.sames_eq : ∀ (l m : List Sx), Sx.sames l m = true ↔ l = m
  | [], [] => by simp [Sx.sames]
  | [], _ :: _ => by simp [Sx.sames]
  | _ :: _, [] => by simp [Sx.sames]
  | x :: r, y :: s => by
    unfold Sx.sames
    rw [Bool.and_eq_true, Sx.same_eq x y, Sx.sames_eq r s]
    constructor
    · rintro ⟨rfl, rfl⟩; rfl
    · intro h; injection h with h1 h2; exact ⟨h1, h2⟩
end

/-- Three cells that hold an expression's value. -/
def At3 (w : World) (b off : Nat) (v : Value) : Prop :=
  ∃ c0 c1 c2, v = .agg #[c0, c1, c2] ∧ w.cell? ⟨b, off, none⟩ = some c0 ∧ w.cell? ⟨b, off + 1, none⟩ = some c1 ∧ w.cell? ⟨b, off + 2, none⟩ = some c2
/-- A value is an expression, as it lies. -/
inductive Lies (S : Nat → Prop) (w : World) : Value → Sx → Prop
  | mk (k : Int) (t : ByteArray) (A : Option Addr) (c : Nat) (vs : List Value) (l : List Sx) (hlen : vs.length = l.length) (hl : l.length ≤ c) (hnil : A = none → c = 0) (hmax : l.length ≤ 9223372036854775807)
      (hat : l = [] ∨ ∃ b off, A = some ⟨b, off, none⟩ ∧ S b ∧ b < w.heap.size ∧ ∀ i (hi : i < vs.length), At3 w b (off + i * 3) vs[i])
      (hk : ∀ i (hi : i < vs.length), Lies S w vs[i] (l[i]'(hlen ▸ hi))) : Lies S w (.agg #[.int .i8 k, .string t, .slice A l.length c]) (.mk k (byts t) l)

theorem At3.below {w w' : World} {b off : Nat} {v : Value} (h : At3 w b off v) (hb : b < w.heap.size) (hbel : Below w.heap.size w w') : At3 w' b off v := by
  obtain ⟨c0, c1, c2, e, h0, h1, h2⟩ := h
  exact ⟨c0, c1, c2, e, (hbel.cell (p := ⟨b, off, none⟩) hb).trans h0, (hbel.cell (p := ⟨b, off + 1, none⟩) hb).trans h1, (hbel.cell (p := ⟨b, off + 2, none⟩) hb).trans h2⟩
theorem Lies.keep {S : Nat → Prop} {w w' : World} {v : Value} {x : Sx} (h : Lies S w v x) (hb : Below w.heap.size w w') : Lies S w' v x := by
  induction h with
  | mk k t A c vs l hlen hl hnil hmax hat hk ih =>
    refine .mk k t A c vs l hlen hl hnil hmax (hat.imp id ?_) ih
    rintro ⟨b, off, e, hS, hlt, h⟩
    exact ⟨b, off, e, hS, Nat.lt_of_lt_of_le hlt hb.size, fun i hi => (h i hi).below hlt hb⟩
theorem Lies.mono {S S' : Nat → Prop} {w : World} {v : Value} {x : Sx} (h : Lies S w v x) (hS' : ∀ b, b < w.heap.size → S b → S' b) : Lies S' w v x := by
  induction h with
  | mk k t A c vs l hlen hl hnil hmax hat hk ih =>
    refine .mk k t A c vs l hlen hl hnil hmax (hat.imp id ?_) ih
    rintro ⟨b, off, e, hS, hlt, h⟩
    exact ⟨b, off, e, hS' b hlt hS, hlt, h⟩
end Go.Proofs.YtiklliiamljogaaGreatDoor

/- A range over a function, at the fence that asks nothing: the statement, met from the iterator's contract; a round, met from the body's walk. -/
namespace Go.Proofs.YtiklliiamljogaaGreatDoor
open Go.RowKit

/-- The record of a range over a function, as the statement lays it. -/
def loopRec (fn : FuncId) (tmps : Array Value) (ps : Array Tmp) (assign body : Code) (D : Nat) (st : LoopState) : Loop :=
  { state := st, pending := none, fn, tmps, params := ps, assign, body, defers := D }

/-- The loop's two blocks: the record at l, the block for the rounds' deferred calls at D. -/
structure LoopAt (W : World) (l D : Nat) (r : Loop) : Prop where
  rec_ : W.heap[l]? = some (.loop r)
  def_ : W.heap[D]? = some (.deferred (some []))
  ne_ : D ≠ l

theorem LoopAt.kept {S : Nat → Prop} {W W' : World} {l D : Nat} {r : Loop} (h : LoopAt W l D r) (hk : Kept S W W') (h1 : ¬ S l) (h2 : ¬ S D) : LoopAt W' l D r :=
  ⟨(hk.block l (Array.getElem?_eq_some_iff.1 h.rec_).1 h1).trans h.rec_, (hk.block D (Array.getElem?_eq_some_iff.1 h.def_).1 h2).trans h.def_, h.ne_⟩

/-- The statement. -/
theorem rangeFunc_wide {n : Nat} {P : Program} {g : Operand} {ps : Array Tmp} {assign body : Code} {Q : Exit → Act → World → Prop} {a : Act} {w : World} {gf : FuncId} {lb : Array Value}
    (hg : a.eval g = .func (.func gf) #[] lb) (hinv : ∀ (x : Value) (W : World), (invoke (.fn (.func gf) lb) #[x]).run P W = .ok (.enter gf (#[x] ++ lb)) W)
    (h : ∀ fn r, r = loopRec fn a.tmps ps assign body w.heap.size .ready → CallsIn Fence.wide (n - 1) P gf (#[.func (.yield (w.heap.size + 1)) #[] #[]] ++ lb) ((w.alloc (.deferred (some []))).alloc (.loop r))
      (rangePost Fence.wide n P (w.heap.size + 1) Q { a with defers := { target := .collected w.heap.size, args := #[] } :: a.defers })) :
    (Code.rangeFunc g ps assign body).wpIn Fence.wide n P Q a w := by
  refine wpIn_rangeFunc fun fn _ => ?_
  refine ⟨w.heap.size + 1, [{ target := .collected w.heap.size, args := #[] }], _, { target := .fn (.func gf) lb, args := #[.func (.yield (w.heap.size + 1)) #[] #[]] }, _, gf, _, _, run_enterLoop_outer _ _ _ _ _, ?_, fun _ _ => trivial, hinv _ _, fun h => (by cases h), h fn _ rfl⟩
  simp only [resolve, List.map_toArray, List.map_cons, List.map_nil, hg]
  rfl

/-- The two blocks, just laid. -/
theorem LoopAt.new (w : World) (r : Loop) : LoopAt ((w.alloc (.deferred (some []))).alloc (.loop r)) (w.heap.size + 1) w.heap.size r := by
  refine ⟨?_, ?_, by omega⟩
  · have := World.alloc_heap_new (w.alloc (.deferred (some []))) (.loop r)
    rwa [World.size_alloc] at this
  · exact (Below.heap_alloc _ _ _ (by simp)).trans (World.alloc_heap_new w _)
theorem Kept.putObj (W : World) (l : Nat) (o : Obj) : Kept (fun b => b = l) W (W.putObj l o) :=
  ⟨rfl, rfl, rfl, by simp, fun _ _ hn => World.putObj_heap_other hn⟩
theorem LoopAt.lt {W : World} {l D : Nat} {r : Loop} (h : LoopAt W l D r) : l < W.heap.size := (Array.getElem?_eq_some_iff.1 h.rec_).1
theorem LoopAt.put {W : World} {l D : Nat} {r : Loop} (h : LoopAt W l D r) (r' : Loop) : LoopAt (W.putObj l (.loop r')) l D r' :=
  ⟨World.putObj_heap_same h.lt, (World.putObj_heap_other h.ne_).trans h.def_, h.ne_⟩
/-- The record in a round. -/
def busyRec (r : Loop) : Loop := { r with state := .busy }
theorem LoopAt.begin_ {P : Program} {W : World} {l D : Nat} {r : Loop} (h : LoopAt W l D r) (hr : r.state = .ready) : (Instr.beginRound l).run P W = .ok () (W.putObj l (.loop (busyRec r))) :=
  run_beginRound h.rec_ hr
theorem LoopAt.end_ {P : Program} {W : World} {l D : Nat} {r : Loop} (h : LoopAt W l D (busyRec r)) (hr : r.state = .ready) (hp : r.pending = none) : (Instr.endRound l none).run P W = .ok (.bool true) (W.putObj l (.loop r)) := by
  rw [run_endRound none h.rec_]
  cases r
  simp only at hr hp
  subst hr hp
  rfl
/-- A round that leaves the loop by a jump. -/
def doneRec (r : Loop) (c : Code) : Loop := { r with state := .done, pending := some c }
theorem LoopAt.stop_ {P : Program} {W : World} {l D : Nat} {r : Loop} (c : Code) (h : LoopAt W l D (busyRec r)) : (Instr.endRound l (some c)).run P W = .ok (.bool false) (W.putObj l (.loop (doneRec r c))) := by
  rw [run_endRound (some c) h.rec_]
  rfl
/-- The record behind the loop. -/
def overRec (r : Loop) : Loop := { r with state := .exhausted }
theorem LoopAt.over_ {P : Program} {W : World} {l D : Nat} {r : Loop} (h : LoopAt W l D r) (hr : r.state = .ready) (hp : r.pending = none) : (Instr.endLoop l).run P W = .ok none (W.putObj l (.loop (overRec r))) :=
  (run_endLoop h.rec_ (by rw [hr]; decide)).trans (congrArg (fun p => Result.ok p (W.putObj l (.loop (overRec r)))) hp)
theorem LoopAt.over_done {P : Program} {W : World} {l D : Nat} {r : Loop} {c : Code} (h : LoopAt W l D (doneRec r c)) : (Instr.endLoop l).run P W = .ok (some c) (W.putObj l (.loop (overRec (doneRec r c)))) := by
  rw [run_endLoop h.rec_ (by simp [doneRec])]
  rfl
theorem Kept.takeDef {S : Nat → Prop} {w W : World} (h : Kept S w W) {D : Nat} (hD : w.heap.size ≤ D) : Kept S w (W.putObj D (.deferred none)) :=
  h.then_ (Kept.putObj W D _) fun i hi e => absurd e (by omega)

/-- append of ONE element that lies in a block of its own, inside a fence. -/
theorem listIn_push {F : Fence} {fu : Nat} {P : Program} (w : World) {ops : Array Oper} {rest : List Oper} {o : Oper} {a : Act} {Q : Exit → Act → World → Prop} (hgd : o.guard = none) (s x : Operand) (t : TypeId)
    (ho : o.op = .call { callee := .builtin .append, args := #[s, x], argTypes := #[t, t] })
    (base : Nat) (e : TypeId) (i : TypeInfo) (z : Value) (size bytes : Nat) (ht : P.underlying t = some (.slice e)) (hi : P.info? e = some i) (hz : i.zero = some z)
    (hsize : i.size = size) (hby : i.bytes = bytes) (hzs : z.cells.size = size) (hsz : 0 < size)
    (v : Value) (n : Nat) (xs : List Value) (hs : a.eval s = v) (hown : w.ownsRow base e size v n xs)
    (g0 : Nat) (cs : Array Value) (hx : a.eval x = .slice (some ⟨g0, 0, none⟩) 1 1) (hb : Blk w g0 e cs) (hl : cs.toList.length = 1 * size) (h1 : ∀ u ∈ cs.toList, u.oneCell' = true)
    (hbytes : (n + 1) * bytes ≤ 140737488355328) (hby0 : 0 < bytes) (hbase : base ≤ g0)
    (h : ∀ g cap w', w'.ownsRow base e size (.slice (some ⟨g, 0, none⟩) (n + 1) cap) (n + 1) (xs ++ cs.toList) → w.grownBy w' v.ownBlock → (v.ownBlock = some g ∨ g = w.heap.size) → g < w'.heap.size → wpListIn F fu P ops Q rest (a.put o.dst (.slice (some ⟨g, 0, none⟩) (n + 1) cap)) w') : wpListIn F fu P ops Q (o :: rest) a w := by
  refine wpListIn_plain hgd fun K hK' => ?_
  obtain ⟨g, cap, w', hrun, r1, r2, r3, r4⟩ := run_append_lies (P := P) w t o.type base e i z size bytes ht hi hz hsize hby hzs hsz v n xs hown ⟨g0, 0, none⟩ 1 1 cs.toList hl (World.news_of_block hb) h1 (by omega)
    (by have := Nat.le_mul_of_pos_right (n + 1) hby0; unfold maxLen; omega) hbytes (Nat.le_of_lt (Nat.lt_of_le_of_lt hbase hb.lt)) w.heap.size rfl
  unfold Oper.wpIn
  refine ⟨?_, ?_⟩
  · simp [Oper.about, ho, resolve, Target.leads, Sem.run_pure]
  · rw [Oper.semAt_plain F _ _ (by rw [ho]; intro c hc'; cases hc')]
    simp [execOp, ho, resolve, invoke, builtin, hs, hx, hrun, Result.andThen]
    exact hK' _ _ (h g cap w' r1 r2 r3 r4)
end Go.Proofs.YtiklliiamljogaaGreatDoor

/- The tokens of a text one behind the other; the iterator. -/
namespace Go.Proofs.YtiklliiamljogaaGreatDoor
open Go.RowKit

/-- A token: kind, text, begin, end. -/
structure Tk where
  k : Nat
  t : List UInt8
  a : Nat
  b : Nat
deriving DecidableEq
def tkCells (x : Tk) : List Value := [.int .i8 x.k, .string ⟨x.t.toArray⟩, .int .i64 x.a, .int .i64 x.b]
theorem tkCells_len (x : Tk) : (tkCells x).length = 4 := rfl

/-- Where the next token begins. -/
def startL (L : List UInt8) (p : Nat) : Nat := p + sk false (L.drop p)

/-- The tokens of a text from a place on; the place of the first bytes that are none, where there are such. -/
inductive Lexes (L : List UInt8) : Nat → List Tk → Option Nat → Prop
  | done {p : Nat} (h : L.drop (startL L p) = []) : Lexes L p [] none
  | bad {p : Nat} (h : L.drop (startL L p) ≠ []) (h2 : tok (L.drop (startL L p)) = none) : Lexes L p [] (some (startL L p))
  | one {p : Nat} {r : Raw} {ts : List Tk} {e : Option Nat} (h : tok (L.drop (startL L p)) = some r) (h2 : Lexes L (startL L p + r.n) ts e) :
      Lexes L p (⟨r.k, r.t, startL L p, startL L p + r.n⟩ :: ts) e

theorem tok_cons (c : UInt8) (r : List UInt8) : tok (c :: r) = match byN c.toNat with
    | 0 => raw 0 [] 1
    | 1 => raw 1 [] 1
    | 2 => tokBar r
    | 3 => tokKey r
    | 4 => tokNum (c :: r)
    | 5 => tokName (c :: r)
    | _ => none := rfl
theorem raw_len {k : Nat} {t : List UInt8} {n : Nat} {r : Raw} (h : raw k t n = some r) : r.n = n := by rw [raw_eq h]
theorem tok_len {l : List UInt8} {r : Raw} (h : tok l = some r) : 1 ≤ r.n ∧ r.n ≤ l.length := by
  cases l with
  | nil => cases h
  | cons c m =>
    rw [tok_cons] at h
    have hsg : byN c.toNat = 4 ∨ byN c.toNat = 5 → signN c.toNat = true := by
      have := (by decide +kernel : ∀ x : Fin 256, byN x.val = 4 ∨ byN x.val = 5 → signN x.val = true) ⟨c.toNat, c.toNat_lt⟩
      exact this
    have hcons : signN c.toNat = true → signs (c :: m) = c :: signs m := fun hs => by
      unfold signs
      rw [List.takeWhile_cons, if_pos hs]
    rw [List.length_cons]
    split at h
    · rw [raw_len h]; omega
    · rw [raw_len h]; omega
    · unfold tokBar at h
      split at h
      · rename_i hm
        simp only at h
        split at h
        · rw [raw_len h]
          have : (m.takeWhile fun c => c != 124).length < m.length := by
            rcases Nat.lt_or_ge (m.takeWhile fun c => c != 124).length m.length with h1 | h1
            · exact h1
            · exfalso
              have h2 : m.takeWhile (fun c => c != 124) = m := (List.takeWhile_prefix _).eq_of_length_le h1
              rw [← h2] at hm
              have h3 := List.all_eq_true.1 (List.all_takeWhile (p := fun c : UInt8 => c != 124) (l := m)) _ hm
              simp at h3
          omega
        · cases h
      · cases h
    · rw [tokKey_eq h]
      have := signs_le m
      simp only
      omega
    · rename_i h4
      rw [tokNum_eq h, hcons (hsg (.inl h4))]
      have := signs_le m
      simp
      omega
    · rename_i h5
      unfold tokName at h
      simp only at h
      rw [raw_len h, hcons (hsg (.inr h5))]
      have := signs_le m
      simp
      omega
    · cases h

theorem startI_nat (s : ByteArray) (p : Nat) (h : p ≤ s.size) : startI s p = startL (byts s) p := by
  have : fromI (p : Int) s.size = p := by unfold fromI; omega
  unfold startI startL
  rw [this]

theorem next_eof (s : ByteArray) (a : Int) (w : World) (hs : s.size ≤ 1000000) (n : Nat) (hn : startI s a = n) (h : (byts s).drop n = []) :
    Calls Tryz.prog 91 #[.string s, .int .i64 a] w fun e w' => e = .returned (.tuple #[.agg #[.int .i8 0, .string ⟨#[]⟩, .int .i64 0, .int .i64 0], .bool false, .int .i64 0]) ∧ Below w.heap.size w w' :=
  (next_ok s a w hs).mono fun e w' ⟨h1, h2⟩ => ⟨(by
    rw [hn] at h1
    rcases h1 with ⟨_, h1⟩ | ⟨h3, _⟩ | ⟨r, t, h3, _⟩
    · exact h1
    · exact absurd h h3
    · rw [h] at h3; cases h3), h2⟩
theorem next_bad (s : ByteArray) (a : Int) (w : World) (hs : s.size ≤ 1000000) (n : Nat) (hn : startI s a = n) (h : (byts s).drop n ≠ []) (ht : tok ((byts s).drop n) = none) :
    Calls Tryz.prog 91 #[.string s, .int .i64 a] w fun e w' => e = .returned (.tuple #[.agg #[.int .i8 0, .string ⟨#[]⟩, .int .i64 n, .int .i64 0], .bool false, .int .i64 20]) ∧ Below w.heap.size w w' :=
  (next_ok s a w hs).mono fun e w' ⟨h1, h2⟩ => ⟨(by
    rw [hn] at h1
    rcases h1 with ⟨h3, _⟩ | ⟨_, _, h1⟩ | ⟨r, t, h3, _⟩
    · exact absurd h3 h
    · exact h1
    · rw [ht] at h3; cases h3), h2⟩
theorem next_tok (s : ByteArray) (a : Int) (w : World) (hs : s.size ≤ 1000000) (n : Nat) (hn : startI s a = n) (r : Raw) (ht : tok ((byts s).drop n) = some r) :
    Calls Tryz.prog 91 #[.string s, .int .i64 a] w fun e w' => e = .returned (.tuple #[.agg #[.int .i8 r.k, .string ⟨r.t.toArray⟩, .int .i64 n, .int .i64 (n + r.n)], .bool true, .int .i64 0]) ∧ Below w.heap.size w w' :=
  (next_ok s a w hs).mono fun e w' ⟨h1, h2⟩ => ⟨(by
    rw [hn] at h1
    rcases h1 with ⟨h3, _⟩ | ⟨_, h3, _⟩ | ⟨r', t, h3, h4, h1⟩
    · rw [h3] at ht; cases ht
    · rw [ht] at h3; cases h3
    · rw [ht] at h3
      injection h3 with h3
      subst h3
      rw [h1, ← h4, Lib.mk_data]), h2⟩

end Go.Proofs.YtiklliiamljogaaGreatDoor

/- What is read of a text: the plain readers. -/
namespace Go.Proofs.YtiklliiamljogaaGreatDoor

/-- An expression and where it ends; or where an error is, and which. -/
inductive Rd where
  | ok (x : Sx) (n : Nat) : Rd
  | err (n : Nat) (e : Int) : Rd
def leafK (k : Nat) : Int := if k = 3 then 1 else if k = 4 then 2 else 0
/-- Is the next token a closing bracket: where does it end? -/
def closes (L : List UInt8) (p : Nat) : Option Nat := match tok (L.drop (startL L p)) with
  | some r => if r.k = 1 then some (startL L p + r.n) else none
  | none => none
mutual
def readF (L : List UInt8) : Nat → Nat → Rd
  | 0, p => .err p 0
  | f + 1, p =>
    if L.drop (startL L p) = [] then .err L.length 21 else match tok (L.drop (startL L p)) with
    | none => .err (startL L p) 20
    | some r => if r.k = 1 then .err (startL L p) 20 else if r.k = 0 then listF L f (startL L p + r.n) [] else .ok (.mk (leafK r.k) r.t []) (startL L p + r.n)
def listF (L : List UInt8) : Nat → Nat → List Sx → Rd
  | 0, p, _ => .err p 0
  | f + 1, p, acc => match closes L p with
    | some q => .ok (.mk 3 [] acc) q
    | none => match readF L f p with
      | .ok x q => listF L f q (acc ++ [x])
      | .err n e => .err n e
end
theorem startL_le (L : List UInt8) (p : Nat) (h : p ≤ L.length) : startL L p ≤ L.length := by
  have := sk_le false (L.drop p)
  rw [List.length_drop] at this
  unfold startL
  omega
theorem startL_ge (L : List UInt8) (p : Nat) : p ≤ startL L p := by unfold startL; omega
theorem closes_some {L : List UInt8} {p q : Nat} (h : closes L p = some q) (hp : p ≤ L.length) : ∃ r, tok (L.drop (startL L p)) = some r ∧ r.k = 1 ∧ q = startL L p + r.n ∧ p < q ∧ q ≤ L.length := by
  unfold closes at h
  split at h
  · rename_i r hr
    split at h
    · rename_i h1
      injection h with h
      have hl := tok_len hr
      have := startL_le L p hp
      have := startL_ge L p
      rw [List.length_drop] at hl
      exact ⟨r, hr, h1, h.symm, by omega, by omega⟩
    · cases h
  · cases h
theorem closes_none {L : List UInt8} {p : Nat} (h : closes L p = none) {r : Raw} (hr : tok (L.drop (startL L p)) = some r) : r.k ≠ 1 := fun h1 => by
  unfold closes at h
  rw [hr] at h
  simp [h1] at h
theorem rd_ok (L : List UInt8) : ∀ f, (∀ p x q, p ≤ L.length → readF L f p = .ok x q → p < q ∧ q ≤ L.length) ∧ (∀ p acc x q, p ≤ L.length → listF L f p acc = .ok x q → p < q ∧ q ≤ L.length)
  | 0 => ⟨fun p x q _ h => by simp [readF] at h, fun p acc x q _ h => by simp [listF] at h⟩
  | f + 1 => by
    obtain ⟨ih1, ih2⟩ := rd_ok L f
    refine ⟨fun p x q hp h => ?_, fun p acc x q hp h => ?_⟩
    · unfold readF at h
      split at h
      · cases h
      · split at h
        · cases h
        · rename_i r hr
          have hl := tok_len hr
          have := startL_le L p hp
          have := startL_ge L p
          rw [List.length_drop] at hl
          split at h
          · cases h
          · split at h
            · have := ih2 _ _ _ _ (by omega) h
              omega
            · injection h with h1 h2
              omega
    · unfold listF at h
      split at h
      · rename_i q' hq
        injection h with h1 h2
        obtain ⟨_, _, _, _, h3, h4⟩ := closes_some hq hp
        omega
      · split at h
        · rename_i y q' hy
          have h1 := ih1 _ _ _ hp hy
          have h2 := ih2 _ _ _ _ h1.2 h
          omega
        · cases h
theorem rd_err (L : List UInt8) : ∀ f, (∀ p n e, p ≤ L.length → 2 * (L.length - p) + 1 ≤ f → readF L f p = .err n e → e = 20 ∨ e = 21) ∧ (∀ p acc n e, p ≤ L.length → 2 * (L.length - p) + 2 ≤ f → listF L f p acc = .err n e → e = 20 ∨ e = 21)
  | 0 => ⟨fun p x q _ h1 h => by omega, fun p acc x q _ h1 h => by omega⟩
  | f + 1 => by
    obtain ⟨ih1, ih2⟩ := rd_err L f
    refine ⟨fun p n e hp hf h => ?_, fun p acc n e hp hf h => ?_⟩
    · unfold readF at h
      split at h
      · injection h with _ h; exact .inr h.symm
      · split at h
        · injection h with _ h; exact .inl h.symm
        · rename_i r hr
          have hl := tok_len hr
          have := startL_le L p hp
          have := startL_ge L p
          rw [List.length_drop] at hl
          split at h
          · injection h with _ h; exact .inl h.symm
          · split at h
            · exact ih2 _ _ _ _ (by omega) (by omega) h
            · cases h
    · unfold listF at h
      split at h
      · cases h
      · split at h
        · rename_i y q' hy
          have h1 := (rd_ok L f).1 _ _ _ hp hy
          exact ih2 _ _ _ _ h1.2 (by omega) h
        · rename_i n' e' hy
          injection h with h1 h2
          subst h1 h2
          exact ih1 _ _ _ hp (by omega) hy
end Go.Proofs.YtiklliiamljogaaGreatDoor

/- leaf, stop. -/
namespace Go.Proofs.YtiklliiamljogaaGreatDoor
open Go.RowKit

set_option maxRecDepth 100000 in
theorem leaf_ok {w : World} (k : Nat) (t : ByteArray) (a b : Int) :
    Calls Tryz.prog 94 #[.agg #[.int .i8 k, .string t, .int .i64 a, .int .i64 b]] w fun e w' => e = .returned (.agg #[.int .i8 (leafK k), .string t, .slice none 0 0]) ∧ Below w.heap.size w w' := by
  have hB : ∀ c c2, Below w.heap.size w ((w.alloc (.cells c 118)).alloc (.cells c2 28)) := fun c c2 => ((Below.refl _ _).alloc (Nat.le_refl _) _).alloc (by simp) _
  by_cases h3 : k = 3
  · subst h3
    go_enter Tryz.func94, Tryz.ntmps94
    go_wp2
    exact bodyPost_ret (v := .agg #[.int .i8 1, .string t, .slice none 0 0]) (by simp [results, Tryz.results94, go_sem]) rfl ⟨rfl, hB _ _⟩
  by_cases h4 : k = 4
  · subst h4
    go_enter Tryz.func94, Tryz.ntmps94
    go_wp2
    exact bodyPost_ret (v := .agg #[.int .i8 2, .string t, .slice none 0 0]) (by simp [results, Tryz.results94, go_sem]) rfl ⟨rfl, hB _ _⟩
  have b3 : ((k : Int) == 3) = false := beq_eq_false_iff_ne.2 (by omega)
  have b4 : ((k : Int) == 4) = false := beq_eq_false_iff_ne.2 (by omega)
  have e : leafK k = 0 := by unfold leafK; rw [if_neg h3, if_neg h4]
  rw [e]
  clear e h3 h4
  go_enter Tryz.func94, Tryz.ntmps94
  go_wp2
  exact bodyPost_ret (v := .agg #[.int .i8 0, .string t, .slice none 0 0]) (by simp [results, Tryz.results94, go_sem]) rfl ⟨rfl, hB _ _⟩
end Go.Proofs.YtiklliiamljogaaGreatDoor

/- stop. -/
namespace Go.Proofs.YtiklliiamljogaaGreatDoor
open Go.RowKit

set_option maxRecDepth 100000 in
theorem stop_ok {w : World} {gr : Nat} {s : ByteArray} {a0 e0 : Int} (h : Blk w gr 108 #[.string s, .int .i64 a0, .int .i64 e0]) (e a : Int) :
    Calls Tryz.prog 92 #[.pointer (some ⟨gr, 0, none⟩), .int .i64 e, .int .i64 a] w fun ed w' => ed = .returned (.agg #[.int .i8 0, .string ⟨#[]⟩, .slice none 0 0]) ∧ Blk w' gr 108 #[.string s, .int .i64 a, .int .i64 e] ∧ Kept (fun i => i = gr) w w' := by
  have hne : w.heap.size ≠ gr := Nat.ne_of_gt h.lt
  have hne2 : gr ≠ w.heap.size := Nat.ne_of_lt h.lt
  have h1 := h.alloc (.cells #[.int .i8 0, .string ⟨#[]⟩, .slice none 0 0] 28)
  have x1 := h1.cell 1
  have x2 := h1.cell 2
  have f1 := h1.frozen 1
  have f2 := h1.frozen 2
  simp only [List.getElem?_toArray, List.getElem?_cons_zero, List.getElem?_cons_succ] at x1 x2
  have H1 := Lib.hid h1
  clear h h1
  go_enter Tryz.func92, Tryz.ntmps92
  go_wp2
  have hb5 := ((((H1.out.set_ 2 (.int .i64 e)).set_ 1 (.int .i64 a)).far (p := ⟨w.heap.size, 0, none⟩) hne2 (.int .i8 0)).far (p := ⟨w.heap.size, 1, none⟩) hne2 (.string ⟨#[]⟩)).far (p := ⟨w.heap.size, 2, none⟩) hne2 (.slice none 0 0)
  have hbox := (((((Blk.new w 28 #[.int .i8 0, .string ⟨#[]⟩, .slice none 0 0]).far (p := ⟨gr, 2, none⟩) hne (.int .i64 e)).far (p := ⟨gr, 1, none⟩) hne (.int .i64 a)).set_ 0 (.int .i8 0)).set_ 1 (.string ⟨#[]⟩)).set_ 2 (.slice none 0 0)
  have y0 := hbox.cell 0
  have y1 := hbox.cell 1
  have y2 := hbox.cell 2
  have hk := (((((Kept.refl (fun i => i = gr) w).alloc (.cells #[.int .i8 0, .string ⟨#[]⟩, .slice none 0 0] 28)).setCell (p := ⟨gr, 2, none⟩) (.inl rfl) (.int .i64 e)).setCell (p := ⟨gr, 1, none⟩) (.inl rfl) (.int .i64 a)).setCell (p := ⟨w.heap.size, 0, none⟩) (.inr (Nat.le_refl _)) (.int .i8 0)).setCell (p := ⟨w.heap.size, 1, none⟩) (.inr (Nat.le_refl _)) (.string ⟨#[]⟩) |>.setCell (p := ⟨w.heap.size, 2, none⟩) (.inr (Nat.le_refl _)) (.slice none 0 0)
  refine bodyPost_ret (v := .agg #[.int .i8 0, .string ⟨#[]⟩, .slice none 0 0]) ?_ rfl ⟨rfl, by simpa using hb5, hk⟩
  simp [results, Tryz.results92, go_sem, y0, y1, y2]
end Go.Proofs.YtiklliiamljogaaGreatDoor

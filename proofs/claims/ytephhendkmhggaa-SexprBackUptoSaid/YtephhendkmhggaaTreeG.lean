/- Expressions as trees, and as they lie in memory. -/
import Derived.Test.YtephhendkmhggaaRefH
import Derived.Test.YtephhendkmhggaaLexL
namespace Go.Proofs.Ytephhendkmhggaa
open Go.RowKit

inductive Sx where
  | mk (k : Int) (t : List UInt8) (l : List Sx) : Sx
def Sx.kind : Sx → Int | .mk k _ _ => k
def Sx.text : Sx → List UInt8 | .mk _ t _ => t
def Sx.kids : Sx → List Sx | .mk _ _ l => l

mutual
def Sx.depth : Sx → Nat
  | .mk k _ l => if k = 3 then Sx.depths l + 1 else 0
def Sx.depths : List Sx → Nat
  | [] => 0
  | x :: r => max x.depth (Sx.depths r)
end
mutual
def Sx.same : Sx → Sx → Bool
  | .mk k t l, .mk k' t' l' => (k == k') && ((t == t') && Sx.sames l l')
def Sx.sames : List Sx → List Sx → Bool
  | [], [] => true
  | x :: r, y :: s => x.same y && Sx.sames r s
  | _, _ => false
end
mutual
theorem Sx.same_eq : ∀ (x y : Sx), x.same y = true ↔ x = y
  | .mk k t l, .mk k' t' l' => by
    unfold Sx.same
    rw [Bool.and_eq_true, Bool.and_eq_true, beq_iff_eq, beq_iff_eq, Sx.sames_eq l l']
    constructor
    · rintro ⟨rfl, rfl, rfl⟩; rfl
    · intro h; injection h with h1 h2 h3; exact ⟨h1, h2, h3⟩
theorem Sx.sames_eq : ∀ (l m : List Sx), Sx.sames l m = true ↔ l = m
  | [], [] => by simp [Sx.sames]
  | [], _ :: _ => by simp [Sx.sames]
  | _ :: _, [] => by simp [Sx.sames]
  | x :: r, y :: s => by
    unfold Sx.sames
    rw [Bool.and_eq_true, Sx.same_eq x y, Sx.sames_eq r s]
    constructor
    · rintro ⟨rfl, rfl⟩; rfl
    · intro h; injection h with h1 h2; exact ⟨h1, h2⟩
end

/-- Three cells that hold an expression's value. -/
def At3 (w : World) (b off : Nat) (v : Value) : Prop :=
  ∃ c0 c1 c2, v = .agg #[c0, c1, c2] ∧ w.cell? ⟨b, off, none⟩ = some c0 ∧ w.cell? ⟨b, off + 1, none⟩ = some c1 ∧ w.cell? ⟨b, off + 2, none⟩ = some c2
/-- A value is an expression, as it lies. -/
inductive Lies (S : Nat → Prop) (w : World) : Value → Sx → Prop
  | mk (k : Int) (t : ByteArray) (A : Option Addr) (c : Nat) (vs : List Value) (l : List Sx) (hlen : vs.length = l.length) (hl : l.length ≤ c) (hnil : A = none → c = 0) (hmax : l.length ≤ 9223372036854775807)
      (hat : l = [] ∨ ∃ b off, A = some ⟨b, off, none⟩ ∧ S b ∧ b < w.heap.size ∧ ∀ i (hi : i < vs.length), At3 w b (off + i * 3) vs[i])
      (hk : ∀ i (hi : i < vs.length), Lies S w vs[i] (l[i]'(hlen ▸ hi))) : Lies S w (.agg #[.int .i8 k, .string t, .slice A l.length c]) (.mk k (byts t) l)

theorem At3.below {w w' : World} {b off : Nat} {v : Value} (h : At3 w b off v) (hb : b < w.heap.size) (hbel : Below w.heap.size w w') : At3 w' b off v := by
  obtain ⟨c0, c1, c2, e, h0, h1, h2⟩ := h
  exact ⟨c0, c1, c2, e, (hbel.cell (p := ⟨b, off, none⟩) hb).trans h0, (hbel.cell (p := ⟨b, off + 1, none⟩) hb).trans h1, (hbel.cell (p := ⟨b, off + 2, none⟩) hb).trans h2⟩
theorem Lies.keep {S : Nat → Prop} {w w' : World} {v : Value} {x : Sx} (h : Lies S w v x) (hb : Below w.heap.size w w') : Lies S w' v x := by
  induction h with
  | mk k t A c vs l hlen hl hnil hmax hat hk ih =>
    refine .mk k t A c vs l hlen hl hnil hmax (hat.imp id ?_) ih
    rintro ⟨b, off, e, hS, hlt, h⟩
    exact ⟨b, off, e, hS, Nat.lt_of_lt_of_le hlt hb.size, fun i hi => (h i hi).below hlt hb⟩
theorem Lies.mono {S S' : Nat → Prop} {w : World} {v : Value} {x : Sx} (h : Lies S w v x) (hS' : ∀ b, b < w.heap.size → S b → S' b) : Lies S' w v x := by
  induction h with
  | mk k t A c vs l hlen hl hnil hmax hat hk ih =>
    refine .mk k t A c vs l hlen hl hnil hmax (hat.imp id ?_) ih
    rintro ⟨b, off, e, hS, hlt, h⟩
    exact ⟨b, off, e, hS' b hlt hS, hlt, h⟩
end Go.Proofs.Ytephhendkmhggaa

/- What is read of a text: the plain readers. -/
namespace Go.Proofs.Ytephhendkmhggaa

/-- An expression and where it ends; or where an error is, and which. -/
inductive Rd where
  | ok (x : Sx) (n : Nat) : Rd
  | err (n : Nat) (e : Int) : Rd
def leafK (k : Nat) : Int := if k = 3 then 1 else if k = 4 then 2 else 0
/-- Is the next token a closing bracket: where does it end? -/
def closes (L : List UInt8) (p : Nat) : Option Nat := match tok (L.drop (startL L p)) with
  | some r => if r.k = 1 then some (startL L p + r.n) else none
  | none => none
mutual
def readF (L : List UInt8) : Nat → Nat → Rd
  | 0, p => .err p 0
  | f + 1, p =>
    if L.drop (startL L p) = [] then .err L.length 21 else match tok (L.drop (startL L p)) with
    | none => .err (startL L p) 20
    | some r => if r.k = 1 then .err (startL L p) 20 else if r.k = 0 then listF L f (startL L p + r.n) [] else .ok (.mk (leafK r.k) r.t []) (startL L p + r.n)
def listF (L : List UInt8) : Nat → Nat → List Sx → Rd
  | 0, p, _ => .err p 0
  | f + 1, p, acc => match closes L p with
    | some q => .ok (.mk 3 [] acc) q
    | none => match readF L f p with
      | .ok x q => listF L f q (acc ++ [x])
      | .err n e => .err n e
end
theorem startL_le (L : List UInt8) (p : Nat) (h : p ≤ L.length) : startL L p ≤ L.length := by
  have := sk_le false (L.drop p)
  rw [List.length_drop] at this
  unfold startL
  omega
theorem startL_ge (L : List UInt8) (p : Nat) : p ≤ startL L p := by unfold startL; omega
theorem closes_some {L : List UInt8} {p q : Nat} (h : closes L p = some q) (hp : p ≤ L.length) : ∃ r, tok (L.drop (startL L p)) = some r ∧ r.k = 1 ∧ q = startL L p + r.n ∧ p < q ∧ q ≤ L.length := by
  unfold closes at h
  split at h
  · rename_i r hr
    split at h
    · rename_i h1
      injection h with h
      have hl := tok_len hr
      have := startL_le L p hp
      have := startL_ge L p
      rw [List.length_drop] at hl
      exact ⟨r, hr, h1, h.symm, by omega, by omega⟩
    · cases h
  · cases h
theorem closes_none {L : List UInt8} {p : Nat} (h : closes L p = none) {r : Raw} (hr : tok (L.drop (startL L p)) = some r) : r.k ≠ 1 := fun h1 => by
  unfold closes at h
  rw [hr] at h
  simp [h1] at h
theorem rd_ok (L : List UInt8) : ∀ f, (∀ p x q, p ≤ L.length → readF L f p = .ok x q → p < q ∧ q ≤ L.length) ∧ (∀ p acc x q, p ≤ L.length → listF L f p acc = .ok x q → p < q ∧ q ≤ L.length)
  | 0 => ⟨fun p x q _ h => by simp [readF] at h, fun p acc x q _ h => by simp [listF] at h⟩
  | f + 1 => by
    obtain ⟨ih1, ih2⟩ := rd_ok L f
    refine ⟨fun p x q hp h => ?_, fun p acc x q hp h => ?_⟩
    · unfold readF at h
      split at h
      · cases h
      · split at h
        · cases h
        · rename_i r hr
          have hl := tok_len hr
          have := startL_le L p hp
          have := startL_ge L p
          rw [List.length_drop] at hl
          split at h
          · cases h
          · split at h
            · have := ih2 _ _ _ _ (by omega) h
              omega
            · injection h with h1 h2
              omega
    · unfold listF at h
      split at h
      · rename_i q' hq
        injection h with h1 h2
        obtain ⟨_, _, _, _, h3, h4⟩ := closes_some hq hp
        omega
      · split at h
        · rename_i y q' hy
          have h1 := ih1 _ _ _ hp hy
          have h2 := ih2 _ _ _ _ h1.2 h
          omega
        · cases h
theorem rd_err (L : List UInt8) : ∀ f, (∀ p n e, p ≤ L.length → 2 * (L.length - p) + 1 ≤ f → readF L f p = .err n e → e = 20 ∨ e = 21) ∧ (∀ p acc n e, p ≤ L.length → 2 * (L.length - p) + 2 ≤ f → listF L f p acc = .err n e → e = 20 ∨ e = 21)
  | 0 => ⟨fun p x q _ h1 h => by omega, fun p acc x q _ h1 h => by omega⟩
  | f + 1 => by
    obtain ⟨ih1, ih2⟩ := rd_err L f
    refine ⟨fun p n e hp hf h => ?_, fun p acc n e hp hf h => ?_⟩
    · unfold readF at h
      split at h
      · injection h with _ h; exact .inr h.symm
      · split at h
        · injection h with _ h; exact .inl h.symm
        · rename_i r hr
          have hl := tok_len hr
          have := startL_le L p hp
          have := startL_ge L p
          rw [List.length_drop] at hl
          split at h
          · injection h with _ h; exact .inl h.symm
          · split at h
            · exact ih2 _ _ _ _ (by omega) (by omega) h
            · cases h
    · unfold listF at h
      split at h
      · cases h
      · split at h
        · rename_i y q' hy
          have h1 := (rd_ok L f).1 _ _ _ hp hy
          exact ih2 _ _ _ _ h1.2 (by omega) h
        · rename_i n' e' hy
          injection h with h1 h2
          subst h1 h2
          exact ih1 _ _ _ hp (by omega) hy
end Go.Proofs.Ytephhendkmhggaa

/- leaf, stop. -/
namespace Go.Proofs.Ytephhendkmhggaa
open Go.RowKit

set_option maxRecDepth 100000 in
theorem leaf_ok {w : World} (k : Nat) (t : ByteArray) (a b : Int) :
    Calls Try.prog 40 #[.agg #[.int .i8 k, .string t, .int .i64 a, .int .i64 b]] w fun e w' => e = .returned (.agg #[.int .i8 (leafK k), .string t, .slice none 0 0]) ∧ Below w.heap.size w w' := by
  have hB : ∀ c c2, Below w.heap.size w ((w.alloc (.cells c 62)).alloc (.cells c2 26)) := fun c c2 => ((Below.refl _ _).alloc (Nat.le_refl _) _).alloc (by simp) _
  by_cases h3 : k = 3
  · subst h3
    go_enter Try.func40, Try.ntmps40
    go_wp2
    exact bodyPost_ret (v := .agg #[.int .i8 1, .string t, .slice none 0 0]) (by simp [results, Try.results40, go_sem]) rfl ⟨rfl, hB _ _⟩
  by_cases h4 : k = 4
  · subst h4
    go_enter Try.func40, Try.ntmps40
    go_wp2
    exact bodyPost_ret (v := .agg #[.int .i8 2, .string t, .slice none 0 0]) (by simp [results, Try.results40, go_sem]) rfl ⟨rfl, hB _ _⟩
  have b3 : ((k : Int) == 3) = false := beq_eq_false_iff_ne.2 (by omega)
  have b4 : ((k : Int) == 4) = false := beq_eq_false_iff_ne.2 (by omega)
  have e : leafK k = 0 := by unfold leafK; rw [if_neg h3, if_neg h4]
  rw [e]
  clear e h3 h4
  go_enter Try.func40, Try.ntmps40
  go_wp2
  exact bodyPost_ret (v := .agg #[.int .i8 0, .string t, .slice none 0 0]) (by simp [results, Try.results40, go_sem]) rfl ⟨rfl, hB _ _⟩
end Go.Proofs.Ytephhendkmhggaa

/- stop. -/
namespace Go.Proofs.Ytephhendkmhggaa
open Go.RowKit

set_option maxRecDepth 100000 in
theorem stop_ok {w : World} {gr : Nat} {s : ByteArray} {a0 e0 : Int} (h : Blk w gr 45 #[.string s, .int .i64 a0, .int .i64 e0]) (e a : Int) :
    Calls Try.prog 38 #[.pointer (some ⟨gr, 0, none⟩), .int .i64 e, .int .i64 a] w fun ed w' => ed = .returned (.agg #[.int .i8 0, .string ⟨#[]⟩, .slice none 0 0]) ∧ Blk w' gr 45 #[.string s, .int .i64 a, .int .i64 e] ∧ Kept (fun i => i = gr) w w' := by
  have hne : w.heap.size ≠ gr := Nat.ne_of_gt h.lt
  have hne2 : gr ≠ w.heap.size := Nat.ne_of_lt h.lt
  have h1 := h.alloc (.cells #[.int .i8 0, .string ⟨#[]⟩, .slice none 0 0] 26)
  have x1 := h1.cell 1
  have x2 := h1.cell 2
  have f1 := h1.frozen 1
  have f2 := h1.frozen 2
  simp only [List.getElem?_toArray, List.getElem?_cons_zero, List.getElem?_cons_succ] at x1 x2
  have H1 := Lib.hid h1
  clear h h1
  go_enter Try.func38, Try.ntmps38
  go_wp2
  have hb5 := ((((H1.out.set_ 2 (.int .i64 e)).set_ 1 (.int .i64 a)).far (p := ⟨w.heap.size, 0, none⟩) hne2 (.int .i8 0)).far (p := ⟨w.heap.size, 1, none⟩) hne2 (.string ⟨#[]⟩)).far (p := ⟨w.heap.size, 2, none⟩) hne2 (.slice none 0 0)
  have hbox := (((((Blk.new w 26 #[.int .i8 0, .string ⟨#[]⟩, .slice none 0 0]).far (p := ⟨gr, 2, none⟩) hne (.int .i64 e)).far (p := ⟨gr, 1, none⟩) hne (.int .i64 a)).set_ 0 (.int .i8 0)).set_ 1 (.string ⟨#[]⟩)).set_ 2 (.slice none 0 0)
  have y0 := hbox.cell 0
  have y1 := hbox.cell 1
  have y2 := hbox.cell 2
  have hk := (((((Kept.refl (fun i => i = gr) w).alloc (.cells #[.int .i8 0, .string ⟨#[]⟩, .slice none 0 0] 26)).setCell (p := ⟨gr, 2, none⟩) (.inl rfl) (.int .i64 e)).setCell (p := ⟨gr, 1, none⟩) (.inl rfl) (.int .i64 a)).setCell (p := ⟨w.heap.size, 0, none⟩) (.inr (Nat.le_refl _)) (.int .i8 0)).setCell (p := ⟨w.heap.size, 1, none⟩) (.inr (Nat.le_refl _)) (.string ⟨#[]⟩) |>.setCell (p := ⟨w.heap.size, 2, none⟩) (.inr (Nat.le_refl _)) (.slice none 0 0)
  refine bodyPost_ret (v := .agg #[.int .i8 0, .string ⟨#[]⟩, .slice none 0 0]) ?_ rfl ⟨rfl, by simpa using hb5, hk⟩
  simp [results, Try.results38, go_sem, y0, y1, y2]
end Go.Proofs.Ytephhendkmhggaa

/- Expressions stay where they lie while other boxes are written. -/
namespace Go.Proofs.Ytephhendkmhggaa
open Go.RowKit

theorem At3.of_block {w w' : World} {b off : Nat} {v : Value} (h : At3 w b off v) (hb : w'.heap[b]? = w.heap[b]?) : At3 w' b off v := by
  obtain ⟨c0, c1, c2, e, h0, h1, h2⟩ := h
  have hlt : ∀ {p : Addr} {c : Value}, p.block = b → w.cell? p = some c → w'.cell? p = some c := fun {p c} hp hc => by
    subst hp
    unfold World.cell? at hc ⊢
    rw [hb]
    exact hc
  exact ⟨c0, c1, c2, e, hlt rfl h0, hlt rfl h1, hlt rfl h2⟩
theorem Lies.still {w w' : World} {S : Nat → Prop} {v : Value} {x : Sx} (h : Lies S w v x) (hsz : w.heap.size ≤ w'.heap.size) (hk : ∀ b, b < w.heap.size → S b → w'.heap[b]? = w.heap[b]?) : Lies S w' v x := by
  induction h with
  | mk k t A c vs l hlen hl hnil hmax hat hkk ih =>
    refine .mk k t A c vs l hlen hl hnil hmax (hat.imp id ?_) ih
    rintro ⟨b, off, e, hS, hlt, h⟩
    exact ⟨b, off, e, hS, Nat.lt_of_lt_of_le hlt hsz, fun i hi => (h i hi).of_block (hk b hlt hS)⟩
theorem Lies.kept {w w' : World} {S K : Nat → Prop} {v : Value} {x : Sx} (h : Lies S w v x) (hk : Kept K w w') (hS : ∀ b, b < w.heap.size → S b → ¬ K b) : Lies S w' v x :=
  h.still hk.size fun b hb hs => hk.block b hb (hS b hb hs)
theorem Lies.grown {w w' : World} {S : Nat → Prop} {row : Option Nat} {v : Value} {x : Sx} (h : Lies S w v x) (hk : w.grownBy w' row) (hS : ∀ b, b < w.heap.size → S b → some b ≠ row) : Lies S w' v x :=
  h.still hk.size fun b hb hs => hk.block b hb (hS b hb hs)
end Go.Proofs.Ytephhendkmhggaa

/- Depth. -/
namespace Go.Proofs.Ytephhendkmhggaa
open Go.RowKit

theorem Sx.ind {P : Sx → Prop} (h : ∀ k t l, (∀ y ∈ l, P y) → P (.mk k t l)) : ∀ x, P x := fun x =>
  Sx.rec (motive_1 := P) (motive_2 := fun l => ∀ y ∈ l, P y) (fun k t l ih => h k t l ih) (fun _ hy => nomatch hy)
    (fun x r hx hr y hy => by
      rcases List.mem_cons.1 hy with rfl | hy
      · exact hx
      · exact hr y hy) x
theorem depths_snoc : ∀ (l : List Sx) (y : Sx), Sx.depths (l ++ [y]) = max (Sx.depths l) y.depth
  | [], y => by simp [Sx.depths]
  | x :: r, y => by
    show max x.depth (Sx.depths (r ++ [y])) = max (max x.depth (Sx.depths r)) y.depth
    rw [depths_snoc r y]
    omega
theorem Lies.inv {S : Nat → Prop} {w : World} {v : Value} {k : Int} {T : List UInt8} {l : List Sx} (h : Lies S w v (.mk k T l)) : ∃ (t : ByteArray) (A : Option Addr) (c : Nat) (vs : List Value) (hlen : vs.length = l.length),
    v = .agg #[.int .i8 k, .string t, .slice A l.length c] ∧ byts t = T ∧ l.length ≤ c ∧ (A = none → c = 0) ∧ l.length ≤ 9223372036854775807 ∧
    (l = [] ∨ ∃ b off, A = some ⟨b, off, none⟩ ∧ S b ∧ b < w.heap.size ∧ ∀ i (hi : i < vs.length), At3 w b (off + i * 3) vs[i]) ∧ ∀ i (hi : i < vs.length), Lies S w vs[i] (l[i]'(hlen ▸ hi)) := by
  cases h with
  | mk k t A c vs l hlen hl hnil hmax hat hk => exact ⟨t, A, c, vs, hlen, rfl, rfl, hl, hnil, hmax, hat, hk⟩

/-- The three cells of an expression. -/
structure C3 where
  k : Int
  t : ByteArray
  A : Option Addr
  n : Nat
  c : Nat
def C3.cells (x : C3) : List Value := [.int .i8 x.k, .string x.t, .slice x.A x.n x.c]
def C3.val (x : C3) : Value := .agg #[.int .i8 x.k, .string x.t, .slice x.A x.n x.c]
theorem C3.cells_len (x : C3) : x.cells.length = 3 := rfl
theorem Lies.c3 {S : Nat → Prop} {w : World} {v : Value} {x : Sx} (h : Lies S w v x) : ∃ y : C3, v = y.val := by
  cases h with
  | mk k t A c vs l _ _ _ _ _ _ => exact ⟨⟨k, t, A, l.length, c⟩, rfl⟩
/-- A slice of expressions as it lies. -/
def Kids (S : Nat → Prop) (w : World) (A : Option Addr) (l : List Sx) : Prop := ∀ i (hi : i < l.length), ∃ b off k t B n c, A = some ⟨b, off, none⟩ ∧ S b ∧ b < w.heap.size ∧
  w.cell? ⟨b, off + i * 3, none⟩ = some (.int .i8 k) ∧ w.cell? ⟨b, off + i * 3 + 1, none⟩ = some (.string t) ∧ w.cell? ⟨b, off + i * 3 + 2, none⟩ = some (.slice B n c) ∧ Lies S w (.agg #[.int .i8 k, .string t, .slice B n c]) l[i]
theorem Lies.open_ {S : Nat → Prop} {w : World} {v : Value} {k : Int} {T : List UInt8} {l : List Sx} (h : Lies S w v (.mk k T l)) : ∃ (t : ByteArray) (A : Option Addr) (c : Nat),
    v = .agg #[.int .i8 k, .string t, .slice A l.length c] ∧ byts t = T ∧ l.length ≤ c ∧ (A = none → c = 0) ∧ l.length ≤ 9223372036854775807 ∧ Kids S w A l := by
  obtain ⟨t, A, c, vs, hlen, rfl, rfl, hlc, hnil, hmax, hat, hk⟩ := h.inv
  refine ⟨t, A, c, rfl, rfl, hlc, hnil, hmax, fun i hi => ?_⟩
  obtain ⟨b, off, rfl, hSb, hb, hcs⟩ := hat.resolve_left (fun e => by rw [e] at hi; exact Nat.not_lt_zero _ hi)
  have hiv : i < vs.length := by omega
  obtain ⟨c0, c1, c2, hvi, h0, h1, h2⟩ := hcs i hiv
  obtain ⟨y, hy⟩ := (hk i hiv).c3
  have hl := hk i hiv
  rw [hy] at hl
  rw [hy] at hvi
  injection hvi with e
  injection e with e
  injection e with e0 e
  injection e with e1 e
  injection e with e2 e
  exact ⟨b, off, y.k, y.t, y.A, y.n, y.c, rfl, hSb, hb, e0 ▸ h0, e1 ▸ h1, e2 ▸ h2, hl⟩
theorem Kids.keep {S : Nat → Prop} {w w' : World} {A : Option Addr} {l : List Sx} (h : Kids S w A l) (hb : Below w.heap.size w w') : Kids S w' A l := fun i hi => by
  obtain ⟨b, off, k, t, B, n, c, e, hSb, hlt, h0, h1, h2, hl⟩ := h i hi
  exact ⟨b, off, k, t, B, n, c, e, hSb, Nat.lt_of_lt_of_le hlt hb.size, (hb.cell (p := ⟨b, off + i * 3, none⟩) hlt).trans h0, (hb.cell (p := ⟨b, off + i * 3 + 1, none⟩) hlt).trans h1, (hb.cell (p := ⟨b, off + i * 3 + 2, none⟩) hlt).trans h2, hl.keep hb⟩
theorem depths_mem : ∀ {l : List Sx} {y : Sx}, y ∈ l → y.depth ≤ Sx.depths l
  | x :: r, y, h => by
    rcases List.mem_cons.1 h with rfl | h
    · exact Nat.le_max_left _ _
    · exact Nat.le_trans (depths_mem h) (Nat.le_max_right _ _)
theorem depths_take (l : List Sx) (i : Nat) (hi : i < l.length) : Sx.depths (l.take (i + 1)) = max (Sx.depths (l.take i)) (l[i]).depth := by
  rw [List.take_succ_eq_append_getElem hi, depths_snoc]
theorem depths_take_le (l : List Sx) (i : Nat) : Sx.depths (l.take i) ≤ Sx.depths l := by
  induction l generalizing i with
  | nil => simp
  | cons x r ih =>
    cases i with
    | zero => exact Nat.zero_le _
    | succ i =>
      show max x.depth (Sx.depths (r.take i)) ≤ max x.depth (Sx.depths r)
      have := ih i
      omega

set_option maxHeartbeats 1000000 in
set_option maxRecDepth 100000 in
theorem depth_ok (x : Sx) (hd : x.depth < 9223372036854775807) {S : Nat → Prop} : ∀ (v : Value) (w : World), Lies S w v x → Calls Try.prog 19 #[v] w fun e w' => e = .returned (.int .i64 x.depth) ∧ Below w.heap.size w w' := by
  induction x using Sx.ind with
  | h k T l ih =>
  intro v w hv
  obtain ⟨t, A, c, rfl, rfl, hlc, hnil, hmax, hk⟩ := hv.open_
  by_cases h3 : k = 3
  · subst h3
    have hd2 : Sx.depths l + 1 < 9223372036854775807 := by unfold Sx.depth at hd; rwa [if_pos rfl] at hd
    have e3 : (Sx.mk 3 (byts t) l).depth = Sx.depths l + 1 := by unfold Sx.depth; rw [if_pos rfl]
    rw [e3]
    have HI := Lib.hid ih
    have HK := Lib.hid hk
    have HN := Lib.hid hnil
    clear ih hk hnil hv hd e3
    go_enter Try.func19, Try.ntmps19
    go_wp2
    go_loopw [12, 3] (fun v d wx => Below w.heap.size w wx ∧ ∃ i : Nat, i ≤ l.length ∧ v = .int .i64 i ∧ d = .int .i64 (Sx.depths (l.take i))) (fun v _ _ => (l.length - intOf v).toNat)
    case atStart => exact ⟨(Below.refl _ w).alloc (Nat.le_refl _) _, 0, Nat.zero_le _, rfl, rfl⟩
    case round =>
      obtain ⟨hB, i, hi, rfl, rfl⟩ := hrel
      by_cases hin : i < l.length
      · have hiz : (i : Int) < (l.length : Int) := by omega
        have d1 : decide ((i : Int) < l.length) = true := decide_eq_true hiz
        obtain ⟨b, off, k1, t1, B1, n1, m1, rfl, _, hlt, h0, h1, h2, hy⟩ := (HK.out.keep hB) i hin
        have hm := depths_mem (List.getElem_mem hin)
        have HY := Lib.hid (HI.out (l[i]) (List.getElem_mem hin) (by omega))
        have HE := Lib.hid (depths_take l i hin)
        have HT := depths_take_le l i
        have HL := Lib.hid hy
        clear HI HK hy
        obtain ⟨dy, hdy⟩ : ∃ dy, (l[i]).depth = dy := ⟨_, rfl⟩
        obtain ⟨dl, hdl⟩ : ∃ dl, Sx.depths (l.take i) = dl := ⟨_, rfl⟩
        rw [hdy, hdl] at HE
        rw [hdy] at HY hm
        rw [hdl] at HT ⊢
        clear hdy hdl
        go_wp2_with (go_at_call 19; refine (HY.out _ _ (HL.out.keep ((Below.refl _ wr).alloc (Nat.le_refl _) _))).mono ?_; rintro e w1 ⟨rfl, hb1⟩)
        go_roundw
        case rel =>
          refine ⟨(hB.trans ((Below.refl _ wr).alloc (Nat.le_refl _) _ |>.mono hB.size)).trans (hb1.mono (by simp; have := hB.size; omega)), i + 1, by omega, by go_num, ?_⟩
          rw [HE.out]
          congr 1
          omega
        case measure => simp only [intOf]; omega
      · have d1 : decide ((i : Int) < l.length) = false := decide_eq_false (by omega)
        have e : l.take i = l := List.take_of_length_le (by omega)
        rw [e]
        go_wp2
        go_ret
        refine ⟨?_, hB⟩
        go_num
  · have b3 : (k != 3) = true := bne_iff_ne.2 h3
    have e0 : (Sx.mk k (byts t) l).depth = 0 := by unfold Sx.depth; rw [if_neg h3]
    rw [e0]
    clear ih hd hk e0
    go_enter Try.func19, Try.ntmps19
    go_wp2
    go_ret
    exact ⟨rfl, (Below.refl _ w).alloc (Nat.le_refl _) _⟩
set_option maxHeartbeats 1000000 in
set_option maxRecDepth 100000 in
theorem rdepth_ok (x : Sx) (hd : x.depth < 9223372036854775807) {S : Nat → Prop} : ∀ (v : Value) (w : World), Lies S w v x → Calls Try.prog 20 #[v] w fun e w' => e = .returned (.int .i64 x.depth) ∧ Below w.heap.size w w' := by
  induction x using Sx.ind with
  | h k T l ih =>
  intro v w hv
  obtain ⟨t, A, c, rfl, rfl, hlc, hnil, hmax, hk⟩ := hv.open_
  by_cases h3 : k = 3
  · subst h3
    have hd2 : Sx.depths l + 1 < 9223372036854775807 := by unfold Sx.depth at hd; rwa [if_pos rfl] at hd
    have e3 : (Sx.mk 3 (byts t) l).depth = Sx.depths l + 1 := by unfold Sx.depth; rw [if_pos rfl]
    rw [e3]
    have HI := Lib.hid ih
    have HK := Lib.hid hk
    have HN := Lib.hid hnil
    clear ih hk hnil hv hd e3
    go_enter Try.func20, Try.ntmps20
    go_wp2
    have hbx := Blk.new w 26 #[.int .i8 3, .string t, .slice A l.length c]
    have hB0 : Below w.heap.size w (w.alloc (.cells #[.int .i8 3, .string t, .slice A l.length c] 26)) := (Below.refl _ w).alloc (Nat.le_refl _) _
    generalize w.alloc (.cells #[.int .i8 3, .string t, .slice A l.length c] 26) = w0 at *
    have hlt0 := hbx.lt
    go_loopw [4, 3] (fun v d wx => Below w0.heap.size w0 wx ∧ ∃ i : Nat, i ≤ l.length ∧ v = .int .i64 i ∧ d = .int .i64 (Sx.depths (l.take i))) (fun v _ _ => (l.length - intOf v).toNat)
    case atStart => exact ⟨Below.refl _ _, 0, Nat.zero_le _, rfl, rfl⟩
    case round =>
      obtain ⟨hBx, i, hi, rfl, rfl⟩ := hrel
      have hB := hB0.trans (hBx.mono (Nat.le_of_lt hlt0))
      have x2 := (hbx.below hBx hlt0).cell 2
      simp only [List.getElem?_toArray, List.getElem?_cons_zero, List.getElem?_cons_succ] at x2
      by_cases hin : i < l.length
      · have hiz : (i : Int) < (l.length : Int) := by omega
        have d1 : decide ((i : Int) < l.length) = true := decide_eq_true hiz
        obtain ⟨b, off, k1, t1, B1, n1, m1, rfl, _, hlt, h0, h1, h2, hy⟩ := (HK.out.keep hB) i hin
        have hm := depths_mem (List.getElem_mem hin)
        have HY := Lib.hid (HI.out (l[i]) (List.getElem_mem hin) (by omega))
        have HE := Lib.hid (depths_take l i hin)
        have HT := depths_take_le l i
        have HL := Lib.hid hy
        clear HI HK hy
        obtain ⟨dy, hdy⟩ : ∃ dy, (l[i]).depth = dy := ⟨_, rfl⟩
        obtain ⟨dl, hdl⟩ : ∃ dl, Sx.depths (l.take i) = dl := ⟨_, rfl⟩
        rw [hdy, hdl] at HE
        rw [hdy] at HY hm
        rw [hdl] at HT ⊢
        clear hdy hdl
        go_wp2_with (go_at_call 20; refine (HY.out _ _ HL.out).mono ?_; rintro e w1 ⟨rfl, hb1⟩)
        go_roundw
        case rel =>
          refine ⟨hBx.trans (hb1.mono hBx.size), i + 1, by omega, by go_num, ?_⟩
          rw [HE.out]
          congr 1
          omega
        case measure => simp only [intOf]; omega
      · have d1 : decide ((i : Int) < l.length) = false := decide_eq_false (by omega)
        have e : l.take i = l := List.take_of_length_le (by omega)
        rw [e]
        go_wp2
        go_ret
        refine ⟨?_, hB⟩
        go_num
  · have b3 : (k != 3) = true := bne_iff_ne.2 h3
    have e0 : (Sx.mk k (byts t) l).depth = 0 := by unfold Sx.depth; rw [if_neg h3]
    rw [e0]
    clear ih hd hk e0
    go_enter Try.func20, Try.ntmps20
    go_wp2
    go_ret
    exact ⟨rfl, (Below.refl _ w).alloc (Nat.le_refl _) _⟩
end Go.Proofs.Ytephhendkmhggaa

/- Expressions stay where they lie while other boxes are written. -/
import Derived.Test.YtiklliiamljogaaGreatDoorTreeD
import Derived.Deep.RegionHeld3
namespace Go.Proofs.YtiklliiamljogaaGreatDoor
open Go.RowKit

theorem At3.of_block {w w' : World} {b off : Nat} {v : Value} (h : At3 w b off v) (hb : w'.heap[b]? = w.heap[b]?) : At3 w' b off v := by
  obtain ⟨c0, c1, c2, e, h0, h1, h2⟩ := h
  have hlt : ∀ {p : Addr} {c : Value}, p.block = b → w.cell? p = some c → w'.cell? p = some c := fun {p c} hp hc => by
    subst hp
    unfold World.cell? at hc ⊢
    rw [hb]
    exact hc
  exact ⟨c0, c1, c2, e, hlt rfl h0, hlt rfl h1, hlt rfl h2⟩
theorem Lies.still {w w' : World} {S : Nat → Prop} {v : Value} {x : Sx} (h : Lies S w v x) (hsz : w.heap.size ≤ w'.heap.size) (hk : ∀ b, b < w.heap.size → S b → w'.heap[b]? = w.heap[b]?) : Lies S w' v x := by
  induction h with
  | mk k t A c vs l hlen hl hnil hmax hat hkk ih =>
    refine .mk k t A c vs l hlen hl hnil hmax (hat.imp id ?_) ih
    rintro ⟨b, off, e, hS, hlt, h⟩
    exact ⟨b, off, e, hS, Nat.lt_of_lt_of_le hlt hsz, fun i hi => (h i hi).of_block (hk b hlt hS)⟩
theorem Lies.kept {w w' : World} {S K : Nat → Prop} {v : Value} {x : Sx} (h : Lies S w v x) (hk : Kept K w w') (hS : ∀ b, b < w.heap.size → S b → ¬ K b) : Lies S w' v x :=
  h.still hk.size fun b hb hs => hk.block b hb (hS b hb hs)
theorem Lies.grown {w w' : World} {S : Nat → Prop} {row : Option Nat} {v : Value} {x : Sx} (h : Lies S w v x) (hk : w.grownBy w' row) (hS : ∀ b, b < w.heap.size → S b → some b ≠ row) : Lies S w' v x :=
  h.still hk.size fun b hb hs => hk.block b hb (hS b hb hs)
end Go.Proofs.YtiklliiamljogaaGreatDoor

/- Depth. -/
namespace Go.Proofs.YtiklliiamljogaaGreatDoor
open Go.RowKit

theorem Sx.ind {P : Sx → Prop} (h : ∀ k t l, (∀ y ∈ l, P y) → P (.mk k t l)) : ∀ x, P x := fun x =>
  Sx.rec (motive_1 := P) (motive_2 := fun l => ∀ y ∈ l, P y) (fun k t l ih => h k t l ih) (fun _ hy => nomatch hy)
    (fun x r hx hr y hy => by
      rcases List.mem_cons.1 hy with rfl | hy
      · exact hx
      · exact hr y hy) x
theorem depths_snoc : ∀ (l : List Sx) (y : Sx), Sx.depths (l ++ [y]) = max (Sx.depths l) y.depth
  | [], y => by simp [Sx.depths]
  | x :: r, y => by
    show max x.depth (Sx.depths (r ++ [y])) = max (max x.depth (Sx.depths r)) y.depth
    rw [depths_snoc r y]
    omega
theorem Lies.inv {S : Nat → Prop} {w : World} {v : Value} {k : Int} {T : List UInt8} {l : List Sx} (h : Lies S w v (.mk k T l)) : ∃ (t : ByteArray) (A : Option Addr) (c : Nat) (vs : List Value) (hlen : vs.length = l.length),
    v = .agg #[.int .i8 k, .string t, .slice A l.length c] ∧ byts t = T ∧ l.length ≤ c ∧ (A = none → c = 0) ∧ l.length ≤ 9223372036854775807 ∧
    (l = [] ∨ ∃ b off, A = some ⟨b, off, none⟩ ∧ S b ∧ b < w.heap.size ∧ ∀ i (hi : i < vs.length), At3 w b (off + i * 3) vs[i]) ∧ ∀ i (hi : i < vs.length), Lies S w vs[i] (l[i]'(hlen ▸ hi)) := by
  cases h with
  | mk k t A c vs l hlen hl hnil hmax hat hk => exact ⟨t, A, c, vs, hlen, rfl, rfl, hl, hnil, hmax, hat, hk⟩

/-- The three cells of an expression. -/
structure C3 where
  k : Int
  t : ByteArray
  A : Option Addr
  n : Nat
  c : Nat
def C3.cells (x : C3) : List Value := [.int .i8 x.k, .string x.t, .slice x.A x.n x.c]
def C3.val (x : C3) : Value := .agg #[.int .i8 x.k, .string x.t, .slice x.A x.n x.c]
theorem C3.cells_len (x : C3) : x.cells.length = 3 := rfl
theorem Lies.c3 {S : Nat → Prop} {w : World} {v : Value} {x : Sx} (h : Lies S w v x) : ∃ y : C3, v = y.val := by
  cases h with
  | mk k t A c vs l _ _ _ _ _ _ => exact ⟨⟨k, t, A, l.length, c⟩, rfl⟩
/-- A slice of expressions as it lies. -/
def Kids (S : Nat → Prop) (w : World) (A : Option Addr) (l : List Sx) : Prop := ∀ i (hi : i < l.length), ∃ b off k t B n c, A = some ⟨b, off, none⟩ ∧ S b ∧ b < w.heap.size ∧
  w.cell? ⟨b, off + i * 3, none⟩ = some (.int .i8 k) ∧ w.cell? ⟨b, off + i * 3 + 1, none⟩ = some (.string t) ∧ w.cell? ⟨b, off + i * 3 + 2, none⟩ = some (.slice B n c) ∧ Lies S w (.agg #[.int .i8 k, .string t, .slice B n c]) l[i]
theorem Lies.open_ {S : Nat → Prop} {w : World} {v : Value} {k : Int} {T : List UInt8} {l : List Sx} (h : Lies S w v (.mk k T l)) : ∃ (t : ByteArray) (A : Option Addr) (c : Nat),
    v = .agg #[.int .i8 k, .string t, .slice A l.length c] ∧ byts t = T ∧ l.length ≤ c ∧ (A = none → c = 0) ∧ l.length ≤ 9223372036854775807 ∧ Kids S w A l := by
  obtain ⟨t, A, c, vs, hlen, rfl, rfl, hlc, hnil, hmax, hat, hk⟩ := h.inv
  refine ⟨t, A, c, rfl, rfl, hlc, hnil, hmax, fun i hi => ?_⟩
  obtain ⟨b, off, rfl, hSb, hb, hcs⟩ := hat.resolve_left (fun e => by rw [e] at hi; exact Nat.not_lt_zero _ hi)
  have hiv : i < vs.length := by omega
  obtain ⟨c0, c1, c2, hvi, h0, h1, h2⟩ := hcs i hiv
  obtain ⟨y, hy⟩ := (hk i hiv).c3
  have hl := hk i hiv
  rw [hy] at hl
  rw [hy] at hvi
  injection hvi with e
  injection e with e
  injection e with e0 e
  injection e with e1 e
  injection e with e2 e
  exact ⟨b, off, y.k, y.t, y.A, y.n, y.c, rfl, hSb, hb, e0 ▸ h0, e1 ▸ h1, e2 ▸ h2, hl⟩
theorem Kids.keep {S : Nat → Prop} {w w' : World} {A : Option Addr} {l : List Sx} (h : Kids S w A l) (hb : Below w.heap.size w w') : Kids S w' A l := fun i hi => by
  obtain ⟨b, off, k, t, B, n, c, e, hSb, hlt, h0, h1, h2, hl⟩ := h i hi
  exact ⟨b, off, k, t, B, n, c, e, hSb, Nat.lt_of_lt_of_le hlt hb.size, (hb.cell (p := ⟨b, off + i * 3, none⟩) hlt).trans h0, (hb.cell (p := ⟨b, off + i * 3 + 1, none⟩) hlt).trans h1, (hb.cell (p := ⟨b, off + i * 3 + 2, none⟩) hlt).trans h2, hl.keep hb⟩
theorem depths_mem : ∀ {l : List Sx} {y : Sx}, y ∈ l → y.depth ≤ Sx.depths l
  | x :: r, y, h => by
    rcases List.mem_cons.1 h with rfl | h
    · exact Nat.le_max_left _ _
    · exact Nat.le_trans (depths_mem h) (Nat.le_max_right _ _)
theorem depths_take (l : List Sx) (i : Nat) (hi : i < l.length) : Sx.depths (l.take (i + 1)) = max (Sx.depths (l.take i)) (l[i]).depth := by
  rw [List.take_succ_eq_append_getElem hi, depths_snoc]
theorem depths_take_le (l : List Sx) (i : Nat) : Sx.depths (l.take i) ≤ Sx.depths l := by
  induction l generalizing i with
  | nil => simp
  | cons x r ih =>
    cases i with
    | zero => exact Nat.zero_le _
    | succ i =>
      show max x.depth (Sx.depths (r.take i)) ≤ max x.depth (Sx.depths r)
      have := ih i
      omega

set_option maxHeartbeats 1000000 in
set_option maxRecDepth 100000 in
theorem depth_ok (x : Sx) (hd : x.depth < 9223372036854775807) {S : Nat → Prop} : ∀ (v : Value) (w : World), Lies S w v x → Calls Tryz.prog 79 #[v] w fun e w' => e = .returned (.int .i64 x.depth) ∧ Below w.heap.size w w' := by
  induction x using Sx.ind with
  | h k T l ih =>
  intro v w hv
  obtain ⟨t, A, c, rfl, rfl, hlc, hnil, hmax, hk⟩ := hv.open_
  by_cases h3 : k = 3
  · subst h3
    have hd2 : Sx.depths l + 1 < 9223372036854775807 := by unfold Sx.depth at hd; rwa [if_pos rfl] at hd
    have e3 : (Sx.mk 3 (byts t) l).depth = Sx.depths l + 1 := by unfold Sx.depth; rw [if_pos rfl]
    rw [e3]
    have HI := Lib.hid ih
    have HK := Lib.hid hk
    have HN := Lib.hid hnil
    clear ih hk hnil hv hd e3
    go_enter Tryz.func79, Tryz.ntmps79
    go_wp2
    go_loopw [12, 3] (fun v d wx => Below w.heap.size w wx ∧ ∃ i : Nat, i ≤ l.length ∧ v = .int .i64 i ∧ d = .int .i64 (Sx.depths (l.take i))) (fun v _ _ => (l.length - intOf v).toNat)
    case atStart => exact ⟨(Below.refl _ w).alloc (Nat.le_refl _) _, 0, Nat.zero_le _, rfl, rfl⟩
    case round =>
      obtain ⟨hB, i, hi, rfl, rfl⟩ := hrel
      by_cases hin : i < l.length
      · have hiz : (i : Int) < (l.length : Int) := by omega
        have d1 : decide ((i : Int) < l.length) = true := decide_eq_true hiz
        obtain ⟨b, off, k1, t1, B1, n1, m1, rfl, _, hlt, h0, h1, h2, hy⟩ := (HK.out.keep hB) i hin
        have hm := depths_mem (List.getElem_mem hin)
        have HY := Lib.hid (HI.out (l[i]) (List.getElem_mem hin) (by omega))
        have HE := Lib.hid (depths_take l i hin)
        have HT := depths_take_le l i
        have HL := Lib.hid hy
        clear HI HK hy
        obtain ⟨dy, hdy⟩ : ∃ dy, (l[i]).depth = dy := ⟨_, rfl⟩
        obtain ⟨dl, hdl⟩ : ∃ dl, Sx.depths (l.take i) = dl := ⟨_, rfl⟩
        rw [hdy, hdl] at HE
        rw [hdy] at HY hm
        rw [hdl] at HT ⊢
        clear hdy hdl
        go_wp2_with (go_at_call 79; refine (HY.out _ _ (HL.out.keep ((Below.refl _ wr).alloc (Nat.le_refl _) _))).mono ?_; rintro e w1 ⟨rfl, hb1⟩)
        go_roundw
        case rel =>
          refine ⟨(hB.trans ((Below.refl _ wr).alloc (Nat.le_refl _) _ |>.mono hB.size)).trans (hb1.mono (by simp; have := hB.size; omega)), i + 1, by omega, by go_num, ?_⟩
          rw [HE.out]
          congr 1
          omega
        case measure => simp only [intOf]; omega
      · have d1 : decide ((i : Int) < l.length) = false := decide_eq_false (by omega)
        have e : l.take i = l := List.take_of_length_le (by omega)
        rw [e]
        go_wp2
        go_ret
        refine ⟨?_, hB⟩
        go_num
  · have b3 : (k != 3) = true := bne_iff_ne.2 h3
    have e0 : (Sx.mk k (byts t) l).depth = 0 := by unfold Sx.depth; rw [if_neg h3]
    rw [e0]
    clear ih hd hk e0
    go_enter Tryz.func79, Tryz.ntmps79
    go_wp2
    go_ret
    exact ⟨rfl, (Below.refl _ w).alloc (Nat.le_refl _) _⟩
set_option maxHeartbeats 1000000 in
set_option maxRecDepth 100000 in
theorem rdepth_ok (x : Sx) (hd : x.depth < 9223372036854775807) {S : Nat → Prop} : ∀ (v : Value) (w : World), Lies S w v x → Calls Tryz.prog 82 #[v] w fun e w' => e = .returned (.int .i64 x.depth) ∧ Below w.heap.size w w' := by
  induction x using Sx.ind with
  | h k T l ih =>
  intro v w hv
  obtain ⟨t, A, c, rfl, rfl, hlc, hnil, hmax, hk⟩ := hv.open_
  by_cases h3 : k = 3
  · subst h3
    have hd2 : Sx.depths l + 1 < 9223372036854775807 := by unfold Sx.depth at hd; rwa [if_pos rfl] at hd
    have e3 : (Sx.mk 3 (byts t) l).depth = Sx.depths l + 1 := by unfold Sx.depth; rw [if_pos rfl]
    rw [e3]
    have HI := Lib.hid ih
    have HK := Lib.hid hk
    have HN := Lib.hid hnil
    clear ih hk hnil hv hd e3
    go_enter Tryz.func82, Tryz.ntmps82
    go_wp2
    have hbx := Blk.new w 28 #[.int .i8 3, .string t, .slice A l.length c]
    have hB0 : Below w.heap.size w (w.alloc (.cells #[.int .i8 3, .string t, .slice A l.length c] 28)) := (Below.refl _ w).alloc (Nat.le_refl _) _
    generalize w.alloc (.cells #[.int .i8 3, .string t, .slice A l.length c] 28) = w0 at *
    have hlt0 := hbx.lt
    go_loopw [4, 3] (fun v d wx => Below w0.heap.size w0 wx ∧ ∃ i : Nat, i ≤ l.length ∧ v = .int .i64 i ∧ d = .int .i64 (Sx.depths (l.take i))) (fun v _ _ => (l.length - intOf v).toNat)
    case atStart => exact ⟨Below.refl _ _, 0, Nat.zero_le _, rfl, rfl⟩
    case round =>
      obtain ⟨hBx, i, hi, rfl, rfl⟩ := hrel
      have hB := hB0.trans (hBx.mono (Nat.le_of_lt hlt0))
      have x2 := (hbx.below hBx hlt0).cell 2
      simp only [List.getElem?_toArray, List.getElem?_cons_zero, List.getElem?_cons_succ] at x2
      by_cases hin : i < l.length
      · have hiz : (i : Int) < (l.length : Int) := by omega
        have d1 : decide ((i : Int) < l.length) = true := decide_eq_true hiz
        obtain ⟨b, off, k1, t1, B1, n1, m1, rfl, _, hlt, h0, h1, h2, hy⟩ := (HK.out.keep hB) i hin
        have hm := depths_mem (List.getElem_mem hin)
        have HY := Lib.hid (HI.out (l[i]) (List.getElem_mem hin) (by omega))
        have HE := Lib.hid (depths_take l i hin)
        have HT := depths_take_le l i
        have HL := Lib.hid hy
        clear HI HK hy
        obtain ⟨dy, hdy⟩ : ∃ dy, (l[i]).depth = dy := ⟨_, rfl⟩
        obtain ⟨dl, hdl⟩ : ∃ dl, Sx.depths (l.take i) = dl := ⟨_, rfl⟩
        rw [hdy, hdl] at HE
        rw [hdy] at HY hm
        rw [hdl] at HT ⊢
        clear hdy hdl
        go_wp2_with (go_at_call 82; refine (HY.out _ _ HL.out).mono ?_; rintro e w1 ⟨rfl, hb1⟩)
        go_roundw
        case rel =>
          refine ⟨hBx.trans (hb1.mono hBx.size), i + 1, by omega, by go_num, ?_⟩
          rw [HE.out]
          congr 1
          omega
        case measure => simp only [intOf]; omega
      · have d1 : decide ((i : Int) < l.length) = false := decide_eq_false (by omega)
        have e : l.take i = l := List.take_of_length_le (by omega)
        rw [e]
        go_wp2
        go_ret
        refine ⟨?_, hB⟩
        go_num
  · have b3 : (k != 3) = true := bne_iff_ne.2 h3
    have e0 : (Sx.mk k (byts t) l).depth = 0 := by unfold Sx.depth; rw [if_neg h3]
    rw [e0]
    clear ih hd hk e0
    go_enter Tryz.func82, Tryz.ntmps82
    go_wp2
    go_ret
    exact ⟨rfl, (Below.refl _ w).alloc (Nat.le_refl _) _⟩
end Go.Proofs.YtiklliiamljogaaGreatDoor

/- The reference's Next by its ways; read where no list begins. -/
namespace Go.Proofs.YtiklliiamljogaaGreatDoor
open Go.RowKit

theorem rnext_eof (s : ByteArray) (a : Int) (w : World) (hs : s.size ≤ 1000000) (n : Nat) (hn : startI s a = n) (h : (byts s).drop n = []) :
    Calls Tryz.prog 93 #[.string s, .int .i64 a] w fun e w' => e = .returned (.tuple #[.agg #[.int .i8 0, .string ⟨#[]⟩, .int .i64 0, .int .i64 0], .bool false, .int .i64 0]) ∧ Below w.heap.size w w' :=
  (rnext_ok s a w hs).mono fun e w' ⟨h1, h2⟩ => ⟨(by
    rw [hn] at h1
    rcases h1 with ⟨_, h1⟩ | ⟨h3, _⟩ | ⟨r, t, h3, _⟩
    · exact h1
    · exact absurd h h3
    · rw [h] at h3; cases h3), h2⟩
theorem rnext_bad (s : ByteArray) (a : Int) (w : World) (hs : s.size ≤ 1000000) (n : Nat) (hn : startI s a = n) (h : (byts s).drop n ≠ []) (ht : tok ((byts s).drop n) = none) :
    Calls Tryz.prog 93 #[.string s, .int .i64 a] w fun e w' => e = .returned (.tuple #[.agg #[.int .i8 0, .string ⟨#[]⟩, .int .i64 n, .int .i64 0], .bool false, .int .i64 20]) ∧ Below w.heap.size w w' :=
  (rnext_ok s a w hs).mono fun e w' ⟨h1, h2⟩ => ⟨(by
    rw [hn] at h1
    rcases h1 with ⟨h3, _⟩ | ⟨_, _, h1⟩ | ⟨r, t, h3, _⟩
    · exact absurd h3 h
    · exact h1
    · rw [ht] at h3; cases h3), h2⟩
theorem rnext_tok (s : ByteArray) (a : Int) (w : World) (hs : s.size ≤ 1000000) (n : Nat) (hn : startI s a = n) (r : Raw) (ht : tok ((byts s).drop n) = some r) :
    Calls Tryz.prog 93 #[.string s, .int .i64 a] w fun e w' => e = .returned (.tuple #[.agg #[.int .i8 r.k, .string ⟨r.t.toArray⟩, .int .i64 n, .int .i64 (n + r.n)], .bool true, .int .i64 0]) ∧ Below w.heap.size w w' :=
  (rnext_ok s a w hs).mono fun e w' ⟨h1, h2⟩ => ⟨(by
    rw [hn] at h1
    rcases h1 with ⟨h3, _⟩ | ⟨_, h3, _⟩ | ⟨r', t, h3, h4, h1⟩
    · rw [h3] at ht; cases ht
    · rw [ht] at h3; cases h3
    · rw [ht] at h3
      injection h3 with h3
      subst h3
      rw [h1, ← h4, Lib.mk_data]), h2⟩

theorem rnext_tokK (s : ByteArray) (a : Int) (w : World) (hs : s.size ≤ 1000000) (n : Nat) (hn : startI s a = n) (r : Raw) (ht : tok ((byts s).drop n) = some r) (k : Int) (hk : (r.k : Int) = k) (m : Int) (hm : (n : Int) + r.n = m) :
    Calls Tryz.prog 93 #[.string s, .int .i64 a] w fun e w' => e = .returned (.tuple #[.agg #[.int .i8 k, .string ⟨r.t.toArray⟩, .int .i64 n, .int .i64 m], .bool true, .int .i64 0]) ∧ Below w.heap.size w w' := by
  subst hk hm
  exact rnext_tok s a w hs n hn r ht
theorem next_tokK (s : ByteArray) (a : Int) (w : World) (hs : s.size ≤ 1000000) (n : Nat) (hn : startI s a = n) (r : Raw) (ht : tok ((byts s).drop n) = some r) (k : Int) (hk : (r.k : Int) = k) (m : Int) (hm : (n : Int) + r.n = m) :
    Calls Tryz.prog 91 #[.string s, .int .i64 a] w fun e w' => e = .returned (.tuple #[.agg #[.int .i8 k, .string ⟨r.t.toArray⟩, .int .i64 n, .int .i64 m], .bool true, .int .i64 0]) ∧ Below w.heap.size w w' := by
  subst hk hm
  exact next_tok s a w hs n hn r ht
def zeroX : Value := .agg #[.int .i8 0, .string ⟨#[]⟩, .slice none 0 0]
/-- What a reader hands over. -/
def RdIs (S : Nat → Prop) (w' : World) (r : Rd) (e : Ending) : Prop := match r with
  | .ok x q => ∃ v, Lies S w' v x ∧ e = .returned (.tuple #[v, .int .i64 q, .int .i64 0])
  | .err q c => e = .returned (.tuple #[zeroX, .int .i64 q, .int .i64 c])
theorem Lies.leaf (S : Nat → Prop) (w : World) (k : Int) (t : List UInt8) : Lies S w (.agg #[.int .i8 k, .string ⟨t.toArray⟩, .slice none 0 0]) (.mk k t []) :=
  Lies.mk (S := S) (w := w) k ⟨t.toArray⟩ none 0 [] [] rfl (Nat.le_refl _) (fun _ => rfl) (by decide) (.inl rfl) (fun i hi => absurd hi (Nat.not_lt_zero _))

theorem blk3 {w : World} {b : Nat} {t : TypeId} {c0 c1 c2 : Value} (h : Blk w b t #[c0, c1, c2]) :
    w.cell? ⟨b, 0, none⟩ = some c0 ∧ w.cell? ⟨b, 1, none⟩ = some c1 ∧ w.cell? ⟨b, 2, none⟩ = some c2 ∧ w.frozen? ⟨b, 0, none⟩ = false ∧ w.frozen? ⟨b, 1, none⟩ = false ∧ w.frozen? ⟨b, 2, none⟩ = false :=
  ⟨h.cell 0, h.cell 1, h.cell 2, h.frozen 0, h.frozen 1, h.frozen 2⟩
theorem Blk.set3 {w : World} {b : Nat} {t : TypeId} {c0 c1 c2 : Value} (h : Blk w b t #[c0, c1, c2]) (d0 d1 d2 : Value) :
    Blk (((w.setCell ⟨b, 0, none⟩ d0).setCell ⟨b, 1, none⟩ d1).setCell ⟨b, 2, none⟩ d2) b t #[d0, d1, d2] := ((h.set_ 0 d0).set_ 1 d1).set_ 2 d2

set_option maxRecDepth 100000 in
theorem read_eof (s : ByteArray) (a : Int) (w : World) (hs : s.size ≤ 1000000) (n : Nat) (hn : startI s a = n) (h : (byts s).drop n = []) :
    Calls Tryz.prog 81 #[.string s, .int .i64 a] w fun e w' => e = .returned (.tuple #[zeroX, .int .i64 s.size, .int .i64 21]) ∧ Below w.heap.size w w' := by
  have hb0 := Blk.new w 28 #[.int .i8 0, .string ⟨#[]⟩, .slice none 0 0]
  have hB0 : Below w.heap.size w (w.alloc (.cells #[.int .i8 0, .string ⟨#[]⟩, .slice none 0 0] 28)) := (Below.refl _ w).alloc (Nat.le_refl _) _
  go_enter Tryz.func81, Tryz.ntmps81
  go_wp2_with (go_at_call 93; refine (rnext_eof s a _ hs n hn h).mono ?_; rintro e w1 ⟨rfl, hb1⟩; have hB := hB0.trans (hb1.mono (by simp)); have hne : w.heap.size ≠ w1.heap.size := Nat.ne_of_lt (Nat.lt_of_lt_of_le (by simp) hb1.size); have hne2 := hne.symm; have hR := (hb0.below hb1 hb0.lt).alloc (.cells #[.int .i8 0, .string ⟨#[]⟩, .int .i64 0, .int .i64 0] 118); obtain ⟨x0, x1, x2, f0, f1, f2⟩ := blk3 hR)
  have hb2 := hR.set3 (.int .i8 0) (.string ⟨#[]⟩) (.slice none 0 0)
  obtain ⟨y0, y1, y2, _⟩ := blk3 hb2
  refine bodyPost_ret (v := .tuple #[zeroX, .int .i64 s.size, .int .i64 21]) ?_ rfl ⟨rfl, ?_⟩
  · simp [zeroX, results, Tryz.results81, go_sem, y0, y1, y2]
  · have hfin := (((hB.alloc hB.size (.cells #[.int .i8 0, .string ⟨#[]⟩, .int .i64 0, .int .i64 0] 118)).setCell (p := ⟨w.heap.size, 0, none⟩) (Nat.le_refl _) (.int .i8 0)).setCell (p := ⟨w.heap.size, 1, none⟩) (Nat.le_refl _) (.string ⟨#[]⟩)).setCell (p := ⟨w.heap.size, 2, none⟩) (Nat.le_refl _) (.slice none 0 0)
    exact ⟨hfin.os, hfin.tape, hfin.output, hfin.size, hfin.block⟩

set_option maxRecDepth 100000 in
theorem read_bad (s : ByteArray) (a : Int) (w : World) (hs : s.size ≤ 1000000) (n : Nat) (hn : startI s a = n) (h : (byts s).drop n ≠ []) (ht : tok ((byts s).drop n) = none) :
    Calls Tryz.prog 81 #[.string s, .int .i64 a] w fun e w' => e = .returned (.tuple #[zeroX, .int .i64 n, .int .i64 20]) ∧ Below w.heap.size w w' := by
  have hb0 := Blk.new w 28 #[.int .i8 0, .string ⟨#[]⟩, .slice none 0 0]
  have hB0 : Below w.heap.size w (w.alloc (.cells #[.int .i8 0, .string ⟨#[]⟩, .slice none 0 0] 28)) := (Below.refl _ w).alloc (Nat.le_refl _) _
  go_enter Tryz.func81, Tryz.ntmps81
  go_wp2_with (go_at_call 93; refine (rnext_bad s a _ hs n hn h ht).mono ?_; rintro e w1 ⟨rfl, hb1⟩; have hB := hB0.trans (hb1.mono (by simp)); have hne : w.heap.size ≠ w1.heap.size := Nat.ne_of_lt (Nat.lt_of_lt_of_le (by simp) hb1.size); have hne2 := hne.symm; have hR := (hb0.below hb1 hb0.lt).alloc (.cells #[.int .i8 0, .string ⟨#[]⟩, .int .i64 n, .int .i64 0] 118); obtain ⟨x0, x1, x2, f0, f1, f2⟩ := blk3 hR)
  go_region
  go_wp2
  have hb2 := hR.set3 (.int .i8 0) (.string ⟨#[]⟩) (.slice none 0 0)
  obtain ⟨y0, y1, y2, _⟩ := blk3 hb2
  refine bodyPost_ret (v := .tuple #[zeroX, .int .i64 n, .int .i64 20]) ?_ rfl ⟨rfl, ?_⟩
  · simp [zeroX, results, Tryz.results81, go_sem, y0, y1, y2]
  · have hfin := (((hB.alloc hB.size (.cells #[.int .i8 0, .string ⟨#[]⟩, .int .i64 n, .int .i64 0] 118)).setCell (p := ⟨w.heap.size, 0, none⟩) (Nat.le_refl _) (.int .i8 0)).setCell (p := ⟨w.heap.size, 1, none⟩) (Nat.le_refl _) (.string ⟨#[]⟩)).setCell (p := ⟨w.heap.size, 2, none⟩) (Nat.le_refl _) (.slice none 0 0)
    exact ⟨hfin.os, hfin.tape, hfin.output, hfin.size, hfin.block⟩

set_option maxRecDepth 100000 in
theorem read_close (s : ByteArray) (a : Int) (w : World) (hs : s.size ≤ 1000000) (n : Nat) (hn : startI s a = n) (r : Raw) (ht : tok ((byts s).drop n) = some r) (hk : r.k = 1) :
    Calls Tryz.prog 81 #[.string s, .int .i64 a] w fun e w' => e = .returned (.tuple #[zeroX, .int .i64 n, .int .i64 20]) ∧ Below w.heap.size w w' := by
  obtain ⟨m, hm⟩ : ∃ m : Int, (n : Int) + r.n = m := ⟨_, rfl⟩
  have hb0 := Blk.new w 28 #[.int .i8 0, .string ⟨#[]⟩, .slice none 0 0]
  have hB0 : Below w.heap.size w (w.alloc (.cells #[.int .i8 0, .string ⟨#[]⟩, .slice none 0 0] 28)) := (Below.refl _ w).alloc (Nat.le_refl _) _
  go_enter Tryz.func81, Tryz.ntmps81
  go_wp2_with (go_at_call 93; refine (rnext_tokK s a _ hs n hn r ht 1 (by rw [hk]; rfl) m hm).mono ?_; rintro e w1 ⟨rfl, hb1⟩; have hB := hB0.trans (hb1.mono (by simp)); have hne : w.heap.size ≠ w1.heap.size := Nat.ne_of_lt (Nat.lt_of_lt_of_le (by simp) hb1.size); have hne2 := hne.symm; have hR := (hb0.below hb1 hb0.lt).alloc (.cells #[.int .i8 1, .string ⟨r.t.toArray⟩, .int .i64 n, .int .i64 m] 118); obtain ⟨x0, x1, x2, f0, f1, f2⟩ := blk3 hR)
  go_region
  go_wp2
  have hb2 := hR.set3 (.int .i8 0) (.string ⟨#[]⟩) (.slice none 0 0)
  obtain ⟨y0, y1, y2, _⟩ := blk3 hb2
  refine bodyPost_ret (v := .tuple #[zeroX, .int .i64 n, .int .i64 20]) ?_ rfl ⟨rfl, ?_⟩
  · simp [zeroX, results, Tryz.results81, go_sem, y0, y1, y2]
  · have hfin := (((hB.alloc hB.size (.cells #[.int .i8 1, .string ⟨r.t.toArray⟩, .int .i64 n, .int .i64 m] 118)).setCell (p := ⟨w.heap.size, 0, none⟩) (Nat.le_refl _) (.int .i8 0)).setCell (p := ⟨w.heap.size, 1, none⟩) (Nat.le_refl _) (.string ⟨#[]⟩)).setCell (p := ⟨w.heap.size, 2, none⟩) (Nat.le_refl _) (.slice none 0 0)
    exact ⟨hfin.os, hfin.tape, hfin.output, hfin.size, hfin.block⟩
end Go.Proofs.YtiklliiamljogaaGreatDoor

/- read at a leaf. -/
namespace Go.Proofs.YtiklliiamljogaaGreatDoor
open Go.RowKit

theorem blk4 {w : World} {b : Nat} {t : TypeId} {c0 c1 c2 c3 : Value} (h : Blk w b t #[c0, c1, c2, c3]) :
    w.cell? ⟨b, 0, none⟩ = some c0 ∧ w.cell? ⟨b, 1, none⟩ = some c1 ∧ w.cell? ⟨b, 2, none⟩ = some c2 ∧ w.cell? ⟨b, 3, none⟩ = some c3 :=
  ⟨h.cell 0, h.cell 1, h.cell 2, h.cell 3⟩

set_option maxHeartbeats 1000000 in
set_option maxRecDepth 100000 in
theorem read_leaf (s : ByteArray) (a : Int) (w : World) (hs : s.size ≤ 1000000) (n : Nat) (hn : startI s a = n) (r : Raw) (ht : tok ((byts s).drop n) = some r) (h0 : r.k ≠ 0) (h1 : r.k ≠ 1) :
    Calls Tryz.prog 81 #[.string s, .int .i64 a] w fun e w' => e = .returned (.tuple #[.agg #[.int .i8 (leafK r.k), .string ⟨r.t.toArray⟩, .slice none 0 0], .int .i64 (n + r.n : Nat), .int .i64 0]) ∧ Below w.heap.size w w' := by
  rw [Int.natCast_add]
  obtain ⟨m, hm⟩ : ∃ m : Int, (n : Int) + r.n = m := ⟨_, rfl⟩
  have b1 : ((r.k : Int) == 1) = false := beq_eq_false_iff_ne.2 (by omega)
  have b0 : ((r.k : Int) != 0) = true := bne_iff_ne.2 (by omega)
  rw [hm]
  have hb0 := Blk.new w 28 #[.int .i8 0, .string ⟨#[]⟩, .slice none 0 0]
  have hB0 : Below w.heap.size w (w.alloc (.cells #[.int .i8 0, .string ⟨#[]⟩, .slice none 0 0] 28)) := (Below.refl _ w).alloc (Nat.le_refl _) _
  go_enter Tryz.func81, Tryz.ntmps81
  go_wp2_with (go_at_call 93; refine (rnext_tokK s a _ hs n hn r ht r.k rfl m hm).mono ?_; rintro e w1 ⟨rfl, hb1⟩; have hB := hB0.trans (hb1.mono (by simp)); have hne : w.heap.size ≠ w1.heap.size := Nat.ne_of_lt (Nat.lt_of_lt_of_le (by simp) hb1.size); have hne2 := hne.symm; have hR := (hb0.below hb1 hb0.lt).alloc (.cells #[.int .i8 r.k, .string ⟨r.t.toArray⟩, .int .i64 n, .int .i64 m] 118); obtain ⟨x0, x1, x2, f0, f1, f2⟩ := blk3 hR; have hT := Blk.new w1 118 #[.int .i8 r.k, .string ⟨r.t.toArray⟩, .int .i64 n, .int .i64 m]; obtain ⟨z0, z1, z2, z3⟩ := blk4 hT)
  go_region_with (go_at_call 94; refine (leaf_ok r.k ⟨r.t.toArray⟩ n m).mono ?_; rintro e w2 ⟨rfl, hb2⟩; have hR2 : Blk w2 w.heap.size 28 #[.int .i8 0, .string ⟨#[]⟩, .slice none 0 0] := (hb2.block _ hR.lt).trans hR; have hT2 : Blk w2 w1.heap.size 118 #[.int .i8 r.k, .string ⟨r.t.toArray⟩, .int .i64 n, .int .i64 m] := (hb2.block _ hT.lt).trans hT; obtain ⟨x0, x1, x2, f0, f1, f2⟩ := blk3 hR2; obtain ⟨z0, z1, z2, z3⟩ := blk4 hT2; have hB2 : Below w.heap.size w w2 := (hB.alloc hB.size (.cells #[.int .i8 r.k, .string ⟨r.t.toArray⟩, .int .i64 n, .int .i64 m] 118)).trans ⟨hb2.os, hb2.tape, hb2.output, hb2.size, fun k hk => hb2.block k (Nat.lt_of_lt_of_le hk (hB.alloc hB.size _).size)⟩)
  all_goals go_wp2
  all_goals
    have hb3 := hR2.set3 (.int .i8 (leafK r.k)) (.string ⟨r.t.toArray⟩) (.slice none 0 0)
    obtain ⟨y0, y1, y2, _⟩ := blk3 hb3
    refine bodyPost_ret (v := .tuple #[.agg #[.int .i8 (leafK r.k), .string ⟨r.t.toArray⟩, .slice none 0 0], .int .i64 m, .int .i64 0]) ?_ rfl ⟨rfl, ?_⟩
    · simp [results, Tryz.results81, go_sem, y0, y1, y2]
    · have hfin := ((hB2.setCell (p := ⟨w.heap.size, 0, none⟩) (Nat.le_refl _) (.int .i8 (leafK r.k))).setCell (p := ⟨w.heap.size, 1, none⟩) (Nat.le_refl _) (.string ⟨r.t.toArray⟩)).setCell (p := ⟨w.heap.size, 2, none⟩) (Nat.le_refl _) (.slice none 0 0)
      exact ⟨hfin.os, hfin.tape, hfin.output, hfin.size, hfin.block⟩
end Go.Proofs.YtiklliiamljogaaGreatDoor

/- Rows of expressions that grow. -/
namespace Go.Proofs.YtiklliiamljogaaGreatDoor
open Go.RowKit

/-- A row of expressions of one's own, all of it made behind D. -/
structure Acc (w : World) (D : Nat) (sv : Value) (cs : List C3) (xs : List Sx) : Prop where
  own : w.ownsRow D 28 3 sv cs.length (cs.flatMap C3.cells)
  len : cs.length = xs.length
  kids : ∀ i (h : i < cs.length), Lies (fun b => D ≤ b ∧ sv.ownBlock ≠ some b) w (cs[i]).val (xs[i]'(len ▸ h))

theorem Acc.nil (w : World) (D : Nat) : Acc w D (.slice none 0 0) [] [] := ⟨World.ownsRow_nil _ _ _ _, rfl, fun _ h => absurd h (Nat.not_lt_zero _)⟩
theorem Acc.keep {w w' : World} {D : Nat} {sv : Value} {cs : List C3} {xs : List Sx} (h : Acc w D sv cs xs) (hb : Below w.heap.size w w') : Acc w' D sv cs xs :=
  ⟨own_kept h.own (Kept.of_below (S := fun _ => False) hb) (fun _ _ h => h), h.len, fun i hi => (h.kids i hi).keep hb⟩
theorem Acc.kept {w w' : World} {K : Nat → Prop} {D : Nat} {sv : Value} {cs : List C3} {xs : List Sx} (h : Acc w D sv cs xs) (hk : Kept K w w') (hK : ∀ b, D ≤ b → b < w.heap.size → ¬ K b) : Acc w' D sv cs xs :=
  ⟨own_kept h.own hk (fun g hg => hK g (h.own.lt g hg).1 (h.own.lt g hg).2), h.len, fun i hi => (h.kids i hi).kept hk fun b hb hs => hK b hs.1 hb⟩
theorem Acc.push {w w' : World} {D g cap : Nat} {sv : Value} {cs : List C3} {xs : List Sx} {y : C3} {x : Sx} (h : Acc w D sv cs xs) (hy : Lies (fun b => D ≤ b ∧ sv.ownBlock ≠ some b) w y.val x)
    (hown : w'.ownsRow D 28 3 (.slice (some ⟨g, 0, none⟩) (cs.length + 1) cap) (cs.length + 1) (cs.flatMap C3.cells ++ y.cells)) (hg : w.grownBy w' sv.ownBlock) (hat : sv.ownBlock = some g ∨ g = w.heap.size) :
    Acc w' D (.slice (some ⟨g, 0, none⟩) (cs.length + 1) cap) (cs ++ [y]) (xs ++ [x]) := by
  have hS : ∀ {v : Value} {z : Sx}, Lies (fun b => D ≤ b ∧ sv.ownBlock ≠ some b) w v z → Lies (fun b => D ≤ b ∧ (Value.slice (some ⟨g, 0, none⟩) (cs.length + 1) cap).ownBlock ≠ some b) w' v z := fun hl => by
    have h1 := hl.mono (S' := fun b => (D ≤ b ∧ g ≠ b) ∧ sv.ownBlock ≠ some b) (fun b hb hs => ⟨⟨hs.1, fun e => by
      subst e
      rcases hat with hat | hat
      · exact hs.2 hat
      · omega⟩, hs.2⟩)
    have h2 := h1.grown hg (fun b _ hs e => hs.2 e.symm)
    exact h2.mono fun b _ hs => ⟨hs.1.1, fun e => hs.1.2 (by simpa [Value.ownBlock] using e)⟩
  refine ⟨?_, by rw [List.length_append, List.length_append, h.len]; rfl, fun i hi => ?_⟩
  · rw [List.length_append, List.length_singleton, List.flatMap_append]
    simpa using hown
  · rcases Nat.lt_or_ge i cs.length with h1 | h1
    · rw [List.getElem_append_left h1, List.getElem_append_left (h.len ▸ h1)]
      exact hS (h.kids i h1)
    · rw [List.length_append, List.length_singleton] at hi
      obtain rfl : i = cs.length := by omega
      rw [List.getElem_append_right (Nat.le_refl _), List.getElem_append_right (by rw [h.len]; exact Nat.le_refl _)]
      simpa using hS hy
/-- What another call made while the row stood is no part of it. -/
theorem Acc.child {w w' : World} {D : Nat} {sv v : Value} {cs : List C3} {xs : List Sx} {x : Sx} (h : Acc w D sv cs xs) (hD : D ≤ w.heap.size) (hl : Lies (fun b => w.heap.size ≤ b) w' v x) : Lies (fun b => D ≤ b ∧ sv.ownBlock ≠ some b) w' v x :=
  hl.mono fun b _ hb => ⟨Nat.le_trans hD hb, fun e => by have := (h.own.lt b e).2; omega⟩
theorem Acc.lies {w : World} {D : Nat} {sv : Value} {cs : List C3} {xs : List Sx} (h : Acc w D sv cs xs) (hn : xs.length < 9223372036854775807) : Lies (fun b => D ≤ b) w (.agg #[.int .i8 3, .string ⟨#[]⟩, sv]) (.mk 3 [] xs) := by
  have kids : ∀ i (h2 : i < (cs.map C3.val).length), Lies (fun b => D ≤ b) w (cs.map C3.val)[i] (xs[i]'(by rw [← h.len]; simpa using h2)) := fun i h2 => by
    rw [List.getElem_map]
    exact (h.kids i (by simpa using h2)).mono fun b _ hs => hs.1
  have hlen : (cs.map C3.val).length = xs.length := by rw [List.length_map, h.len]
  rcases Nat.eq_zero_or_pos cs.length with h0 | h0
  · have hx : xs = [] := List.eq_nil_of_length_eq_zero (by rw [← h.len]; exact h0)
    rcases h.own.2 with ⟨rfl, _⟩ | ⟨g, cap, cur, rfl, hb, hg, hc, _⟩
    · subst hx
      exact Lies.mk (S := fun b => D ≤ b) (w := w) 3 ⟨#[]⟩ none 0 (cs.map C3.val) [] hlen (Nat.le_refl _) (fun _ => rfl) (by decide) (.inl rfl) kids
    · have := Lies.mk (S := fun b => D ≤ b) (w := w) 3 ⟨#[]⟩ (some ⟨g, 0, none⟩) cap (cs.map C3.val) xs hlen (by rw [← h.len]; exact hc) (fun e => by cases e) (Nat.le_of_lt hn) (.inl hx) kids
      rw [← h.len] at this
      exact this
  · obtain ⟨g, cap, rfl, hD, hlt, hc⟩ := own_form h.own h0
    have hown := h.own
    have := Lies.mk (S := fun b => D ≤ b) (w := w) 3 ⟨#[]⟩ (some ⟨g, 0, none⟩) cap (cs.map C3.val) xs hlen (by rw [← h.len]; exact hc) (fun e => by cases e) (Nat.le_of_lt hn) (.inr ⟨g, 0, rfl, hD, hlt, fun i hi => ?_⟩) kids
    · rw [← h.len] at this
      exact this
    · have hic : i < cs.length := by simpa using hi
      rw [List.getElem_map, Nat.zero_add]
      exact ⟨_, _, _, rfl, (own_cell C3.cells C3.cells_len hown (j := 0) hic (by decide)).trans rfl, (own_cell C3.cells C3.cells_len hown (j := 1) hic (by decide)).trans rfl, (own_cell C3.cells C3.cells_len hown (j := 2) hic (by decide)).trans rfl⟩
end Go.Proofs.YtiklliiamljogaaGreatDoor

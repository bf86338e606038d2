/- The forest with what it leaves alone; the closer. -/
import Derived.Test.YtbgbhfmchpdkcaaEuR
import Derived.Test.YtbgbhfmchpdkcaaEuQ
import Derived.Test.YtbgbhfmchpdkcaaCounts
namespace Go.Proofs.Ytbgbhfmchpdkcaa
open Go.RowKit

/-- A forest that owns nothing of P. -/
def Fo (w : World) (P : Nat → Prop) (bf : Nat) (n : Int) (J : List Jn) (m : Nat) : Prop :=
  ∃ B bn bp lj N k, FR w B bf bn bp lj N n J k ∧ k ≤ m ∧ ∀ b, Foot bf bn bp lj N b → ¬ P b
section
variable {w w' : World} {P : Nat → Prop} {bf m : Nat} {n : Int} {J : List Jn}
theorem foot_lt {B bn bp : Nat} {lj : Value} {N : Int → Value} {k : Nat} (h : FR w B bf bn bp lj N n J k) {b : Nat} (hb : Foot bf bn bp lj N b) : b < w.heap.size := by
  obtain ⟨l1, l2, l3, l4, l5⟩ := h.lts
  rcases hb with rfl | rfl | rfl | hb | ⟨x, hb⟩
  · exact l1
  · exact l2
  · exact l3
  · exact l4 b hb
  · exact l5 x b hb
theorem Fo.keep {S : Nat → Prop} (h : Fo w P bf n J m) (hk : Kept S w w') (hs : ∀ b, b < w.heap.size → S b → P b) : Fo w' P bf n J m := by
  obtain ⟨B, bn, bp, lj, N, k, h1, h2, h3⟩ := h
  have hn : ∀ b, Foot bf bn bp lj N b → ¬ S b := fun b hb hS => h3 b hb (hs b (foot_lt h1 hb) hS)
  exact ⟨B, bn, bp, lj, N, k, h1.keep hk (hn _ (.inl rfl)) (hn _ (.inr (.inl rfl))) (hn _ (.inr (.inr (.inl rfl)))) (fun g hg => hn g (.inr (.inr (.inr (.inl hg))))) (fun x g hg => hn g (.inr (.inr (.inr (.inr ⟨x, hg⟩))))), h2, h3⟩
theorem Fo.below (h : Fo w P bf n J m) (hb : Below w.heap.size w w') : Fo w' P bf n J m := h.keep (Kept.of_below (S := fun _ => False) hb) fun _ _ hf => hf.elim
theorem Fo.mono (h : Fo w P bf n J m) {m' : Nat} (hm : m ≤ m') : Fo w P bf n J m' := by
  obtain ⟨B, bn, bp, lj, N, k, h1, h2, h3⟩ := h
  exact ⟨B, bn, bp, lj, N, k, h1, Nat.le_trans h2 hm, h3⟩
theorem Fo.fine (h : Fo w P bf n J m) : Fine n J := by
  obtain ⟨B, bn, bp, lj, N, k, h1, h2, h3⟩ := h
  exact h1.fine
/-- What is new is protected, too. -/
theorem Fo.guard (h : Fo w P bf n J m) {Q : Nat → Prop} (hQ : ∀ b, Q b → P b ∨ w.heap.size ≤ b) : Fo w Q bf n J m := by
  obtain ⟨B, bn, bp, lj, N, k, h1, h2, h3⟩ := h
  refine ⟨B, bn, bp, lj, N, k, h1, h2, fun b hb hq => ?_⟩
  rcases hQ b hq with hp | hp
  · exact h3 b hb hp
  · have := foot_lt h1 hb
    omega
theorem fo_join (h : Fo w P bf n J m) (hP : ∀ b, P b → b < w.heap.size) (hm : m ≤ 1000000) (a b r : Int) :
    Calls Try.prog 75 #[.pointer (some ⟨bf, 0, none⟩), .int .i64 a, .int .i64 b, .int .i64 r] w fun e w' => e = .returned (.tuple #[.bool (joinsM n J a b), .int .i64 (joinE n a b)]) ∧ Fo w' P bf n (joinM n J a b r) (m + 3) ∧ Kept (fun b => ¬ P b) w w' := by
  obtain ⟨B, bn, bp, lj, N, k, h1, h2, h3⟩ := h
  refine (join_ok h1 (by omega) a b r).mono ?_
  rintro e w' ⟨lj', N', he, g1, g2, g3⟩
  refine ⟨he, ⟨B, bn, bp, lj', N', k + 3, g1, by omega, fun b hb hp => ?_⟩, g2.mono fun b _ hb => h3 b hb⟩
  rcases g3 b hb with g | g
  · exact h3 b g hp
  · have := hP b hp
    omega
theorem fo_one (h : Fo w P bf n J m) (hm : m ≤ 1000000) (x y : Int) :
    Calls Try.prog 53 #[.pointer (some ⟨bf, 0, none⟩), .int .i64 x, .int .i64 y] w fun e w' => e = .returned (.bool (oneM n J x y)) ∧ Fo w' P bf n J (m + 1) ∧ Kept (fun b => ¬ P b) w w' := by
  obtain ⟨B, bn, bp, lj, N, k, h1, h2, h3⟩ := h
  refine (one_ok h1 (by omega) x y).mono ?_
  rintro e w' ⟨he, g1, g2⟩
  exact ⟨he, ⟨B, bn, bp, lj, N, k + 1, g1, by omega, h3⟩, g2.mono fun b _ hb => h3 b (.inr (.inr (.inl hb)))⟩
theorem fo_rep (h : Fo w P bf n J m) (x : Int) (hx : 0 ≤ x ∧ x < n) :
    Calls Try.prog 22 #[.pointer (some ⟨bf, 0, none⟩), .int .i64 x] w fun e w' => ∃ r, e = .returned (.int .i64 r) ∧ RepR n J x r ∧ Below w.heap.size w w' := by
  obtain ⟨B, bn, bp, lj, N, k, h1, h2, h3⟩ := h
  exact rep_ok h1 x hx
theorem fo_new (n : Int) (h0 : 0 ≤ n) (hn : n ≤ 4096) (w : World) :
    Calls Try.prog 48 #[.int .i64 n] w fun e w' => ∃ bf, e = .returned (.pointer (some ⟨bf, 0, none⟩)) ∧ Fo w' (fun b => b < w.heap.size) bf n [] 0 ∧ Below w.heap.size w w' := by
  refine (new_ok n h0 hn w).mono ?_
  rintro e w' ⟨bf, bn, bp, he, h1, h2⟩
  refine ⟨bf, he, ⟨_, bn, bp, _, _, 0, h1, Nat.le_refl _, fun b hb hlt => ?_⟩, h2⟩
  have := h1.hbf
  have := h1.hbn
  have := h1.hbp
  rcases hb with rfl | rfl | rfl | hb | ⟨x, hb⟩
  · omega
  · omega
  · omega
  · cases hb
  · cases hb
end

/-- The closer: its block cb, its table below H, its forest; X: what else is left alone. -/
structure Cl (w : World) (H : Nat) (X : Nat → Prop) (cb q bf : Nat) (A : Option Addr) (c : Nat) (T : List Nd) (J : List Jn) (m : Nat) (more : Bool) : Prop where
  blk : Blk w cb 44 #[.pointer (some ⟨q, 0, none⟩), .pointer (some ⟨bf, 0, none⟩), .int .i64 T.length, .bool more]
  tab : TabP w q A c T
  fo : Fo w (fun b => b < H ∨ X b ∨ b = cb) bf (T.length + 1) J m
  hq : q < H
  hA : ∀ a, A = some a → a.block < H
  hcb : H ≤ cb ∧ ¬ X cb
  hX : ∀ b, X b → b < w.heap.size
  hH : H ≤ w.heap.size
  hT : T.length ≤ 4000
section
variable {w w' : World} {H : Nat} {X : Nat → Prop} {cb q bf : Nat} {A : Option Addr} {c : Nat} {T : List Nd} {J : List Jn} {m : Nat} {more : Bool}
theorem TabP.kept {S : Nat → Prop} (h : TabP w q A c T) (hk : Kept S w w') (h1 : ¬ S q) (h2 : ∀ a, A = some a → ¬ S a.block) : TabP w' q A c T := by
  refine ⟨h.blk.kept hk h1, ⟨h.tab.len, ?_⟩, h.cap⟩
  refine h.tab.at_.imp id fun ⟨b, off, e, hlt, hn⟩ => ⟨b, off, e, Nat.lt_of_lt_of_le hlt hk.size, fun i hi => ?_⟩
  have hb := hk.block b hlt (h2 _ e)
  refine ⟨Nat.lt_of_lt_of_le hlt hk.size, fun j hj => ?_, (hn i hi).wf⟩
  rw [← (hn i hi).cells j hj]
  simp only [World.cell?]
  rw [hb]
/-- A step that leaves H, X and the closer's own block alone. -/
theorem Cl.keep {S : Nat → Prop} (h : Cl w H X cb q bf A c T J m more) (hk : Kept S w w') (hs : ∀ b, b < w.heap.size → S b → H ≤ b ∧ b ≠ cb ∧ X b) : Cl w' H X cb q bf A c T J m more := by
  refine ⟨h.blk.kept hk fun hS => (hs cb h.blk.lt hS).2.1 rfl, h.tab.kept hk (fun hS => ?_) (fun a e hS => ?_), h.fo.keep hk fun b hb hS => .inr (.inl (hs b hb hS).2.2), h.hq, h.hA, h.hcb, fun b hb => Nat.lt_of_lt_of_le (h.hX b hb) hk.size, Nat.le_trans h.hH hk.size, h.hT⟩
  · have := (hs q h.tab.blk.lt hS).1
    have := h.hq
    omega
  · have h1 := h.hA a e
    have := (hs a.block (Nat.lt_of_lt_of_le h1 h.hH) hS).1
    omega
theorem Cl.below (h : Cl w H X cb q bf A c T J m more) (hb : Below w.heap.size w w') : Cl w' H X cb q bf A c T J m more := h.keep (Kept.of_below (S := fun _ => False) hb) fun _ _ hf => hf.elim
theorem Cl.mono (h : Cl w H X cb q bf A c T J m more) {m' : Nat} (hm : m ≤ m') : Cl w H X cb q bf A c T J m' more := { h with fo := h.fo.mono hm }
/-- More is left alone: what is new. -/
theorem Cl.guard (h : Cl w H X cb q bf A c T J m more) {Y : Nat → Prop} (hY : ∀ b, Y b → X b ∨ w.heap.size ≤ b) (hY2 : ∀ b, Y b → b < w'.heap.size) (hb : Below w.heap.size w w') : Cl w' H Y cb q bf A c T J m more := by
  have h2 := h.below hb
  refine { h2 with fo := (h.fo.guard fun b hq => ?_).below hb, hcb := ⟨h.hcb.1, fun hy => ?_⟩, hX := hY2 }
  · rcases hq with hq | hq | hq
    · exact .inl (.inl hq)
    · exact (hY b hq).imp (fun h => .inr (.inl h)) id
    · exact .inl (.inr (.inr hq))
  · rcases hY cb hy with g | g
    · exact h.hcb.2 g
    · have := h.blk.lt
      omega
/-- Less is left alone. -/
theorem Cl.less (h : Cl w H X cb q bf A c T J m more) {Y : Nat → Prop} (hY : ∀ b, Y b → X b) : Cl w H Y cb q bf A c T J m more := by
  refine { h with fo := h.fo.guard fun b hq => .inl ?_, hcb := ⟨h.hcb.1, fun hy => h.hcb.2 (hY _ hy)⟩, hX := fun b hb => h.hX b (hY b hb) }
  rcases hq with hq | hq | hq
  · exact .inl hq
  · exact .inr (.inl (hY b hq))
  · exact .inr (.inr hq)
/-- What a call of the closer's leaves alone. -/
def Kc (H : Nat) (X : Nat → Prop) (w w' : World) : Prop := Kept (fun b => ¬ (b < H ∨ X b)) w w'
theorem Kc.refl (w : World) : Kc H X w w := Kept.refl _ _
theorem Kc.trans {w2 : World} (h : Kc H X w w') (k : Kc H X w' w2) : Kc H X w w2 := Kept.trans h k
theorem Kc.of_below (h : Below w.heap.size w w') : Kc H X w w' := Kept.of_below h
theorem Kc.below (h : Kc H X w w') (hH : H ≤ w.heap.size) : Below H w w' := Kept.below h hH fun _ hk => Nat.le_of_not_lt fun hl => hk (.inl hl)

set_option maxRecDepth 100000 in
theorem cjoin_ok (h : Cl w H X cb q bf A c T J m more) (hm : m ≤ 1000000) (a b : Int) :
    Calls Try.prog 67 #[.pointer (some ⟨cb, 0, none⟩), .int .i64 a, .int .i64 b] w fun e w' => e = .returned (.tuple #[]) ∧ Cl w' H X cb q bf A c T (joinM (T.length + 1) J a b 0) (m + 3) (more || joinsM (T.length + 1) J a b) ∧ Kc H X w w' := by
  have c1 := h.blk.cell 1
  simp only [List.getElem?_toArray, List.getElem?_cons_zero, List.getElem?_cons_succ] at c1
  have hl := h.blk.lt
  have HH := Lib.hid h
  have KJ := Lib.hid (fo_join h.fo (fun b hb => by
    rcases hb with hb | hb | rfl
    · exact Nat.lt_of_lt_of_le hb h.hH
    · exact h.hX b hb
    · exact h.blk.lt) hm a b 0)
  clear h
  obtain ⟨jb, hjb⟩ : ∃ jb, joinsM (T.length + 1) J a b = jb := ⟨_, rfl⟩
  rw [hjb] at KJ ⊢
  clear hjb
  go_enter Try.func67, Try.ntmps67
  go_wp2_with fail
  refine KJ.out.mono ?_
  rintro e w1 ⟨rfl, hfo, hk⟩
  have hb1 := HH.out.blk.kept hk (fun hn => hn (.inr (.inr rfl)))
  have ht1 := HH.out.tab.kept hk (fun hn => hn (.inl HH.out.hq)) (fun x e hn => hn (.inl (HH.out.hA x e)))
  have hc1 : Cl w1 H X cb q bf A c T (joinM (T.length + 1) J a b 0) (m + 3) more := ⟨hb1, ht1, hfo, HH.out.hq, HH.out.hA, HH.out.hcb, fun b hb => Nat.lt_of_lt_of_le (HH.out.hX b hb) hk.size, Nat.le_trans HH.out.hH hk.size, HH.out.hT⟩
  have hkc : Kc H X w w1 := hk.mono fun b _ hb hn => hb (hn.imp id .inl)
  have hlt := hb1.lt
  have c3 := hb1.cell 3
  have f3 := hb1.frozen 3
  simp only [List.getElem?_toArray, List.getElem?_cons_zero, List.getElem?_cons_succ] at c3
  have H1 := Lib.hid hc1
  have K1 := Lib.hid hkc
  clear hfo hk hb1 ht1 hc1 hkc
  cases jb with
  | false =>
    go_wp2
    refine bodyPost_end (results_none rfl _ _ _) rfl ?_
    refine ⟨rfl, ?_, K1.out⟩
    rw [Bool.or_false]
    exact H1.out
  | true =>
    go_wp2
    refine bodyPost_end (results_none rfl _ _ _) rfl ?_
    refine ⟨rfl, ?_, ?_⟩
    · rw [Bool.or_true]
      have hk : Kept (fun b => b = cb) w1 (w1.setCell ⟨cb, 3, none⟩ (.bool true)) := Kept.set1 w1 cb 3 _
      refine { H1.out with blk := ?_, tab := ?_, fo := ?_, hX := ?_, hH := ?_ }
      · have := H1.out.blk.set_ 3 (.bool true)
        simpa using this
      · refine H1.out.tab.kept hk (fun e => ?_) (fun x e e2 => ?_)
        · have := H1.out.hq
          have := H1.out.hcb.1
          omega
        · have := H1.out.hA x e
          have := H1.out.hcb.1
          omega
      · exact H1.out.fo.keep hk fun b _ e => .inr (.inr e)
      · intro b hb
        exact Nat.lt_of_lt_of_le (H1.out.hX b hb) hk.size
      · exact Nat.le_trans H1.out.hH hk.size
    · refine K1.out.trans ((Kept.set1 w1 cb 3 _).mono fun b _ e => ?_)
      subst e
      rintro (g | g)
      · have := H1.out.hcb.1
        omega
      · exact H1.out.hcb.2 g
end
end Go.Proofs.Ytbgbhfmchpdkcaa

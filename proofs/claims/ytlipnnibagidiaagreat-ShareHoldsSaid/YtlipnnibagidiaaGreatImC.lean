/- gantryref11.Add; gantryref12.not, same, le. -/
import Derived.Test.YtlipnnibagidiaaGreatPuA
namespace Go.Proofs.YtlipnnibagidiaaGreat
open Go.RowKit Go.Lib
structure MX (w : World) (A : Option Addr) (C : List Nd) (p : Nat) (A1 : Option Addr) (T1 : List Nd) (c1 : Nat) (W : World) : Prop where
  t : Blk W p 33 #[.slice A1 T1.length c1]
  r : Blk W (w.heap.size + 1) 33 #[.slice none 0 0]
  hp : p ≠ w.heap.size + 1
  tab : Tab W A1 T1
  fr : ∀ b, A1 = some b → 0 < T1.length → b.block ≠ p ∧ ((A = some b ∧ 0 < C.length ∧ b.block < w.heap.size) ∨ w.heap.size + 2 ≤ b.block)
  hc : T1.length ≤ c1
  bel : Below w.heap.size w W
def OutT (A : Option Addr) (C : List Nd) (Q : List Nd → Int → Int → Prop) (w : World) (e : Ending) (w' : World) : Prop :=
  ∃ A' c' T' id er, e = .returned (.tuple #[.agg #[.slice A' T'.length c'], .int .i64 id, .int .i64 er]) ∧ Tab w' A' T' ∧ T'.length ≤ c' ∧ Fr A C w A' ∧ Q T' id er ∧ Below w.heap.size w w'
theorem Tab.kept0 {w w' : World} {A : Option Addr} {T : List Nd} {r : Nat} (h : Tab w A T) (hk : Kept (fun b => b = r) w w') (hr : ∀ b, A = some b → 0 < T.length → b.block ≠ r) : Tab w' A T := by
  rcases Nat.eq_zero_or_pos T.length with h0 | h0
  · exact ⟨h.len, .inl h0⟩
  · exact h.kept1 hk fun b e => hr b e h0
section
variable {w W W2 : World} {A A1 A2 : Option Addr} {C T1 T2 : List Nd} {p c c1 c2 : Nat} {Q : List Nd → Int → Int → Prop}
theorem MX.start (h : Tab w A C) (hc : C.length ≤ c) : MX w A C w.heap.size A C c ((w.alloc (.cells #[.slice A C.length c] 33)).alloc (.cells #[.slice none 0 0] 33)) :=
  ⟨(Blk.new w _ _).alloc _, Blk.new_at (by simp) _ _, by omega, (h.alloc _).alloc _, fun b e h0 => by have := Tab.lt (e ▸ h) h0; exact ⟨by omega, .inl ⟨e, h0, this⟩⟩, hc, ((Below.refl _ w).alloc (Nat.le_refl _) _).alloc (by simp) _⟩
theorem MX.below (h : MX w A C p A1 T1 c1 W) (hb : Below W.heap.size W W2) : MX w A C p A1 T1 c1 W2 :=
  ⟨h.t.below hb h.t.lt, h.r.below hb h.r.lt, h.hp, h.tab.below hb, h.fr, h.hc, h.bel.trans (hb.mono h.bel.size)⟩
theorem MX.cells (h : MX w A C p A1 T1 c1 W) : W.cell? ⟨p, 0, none⟩ = some (.slice A1 T1.length c1) ∧ W.cell? ⟨w.heap.size + 1, 0, none⟩ = some (.slice none 0 0) ∧ W.frozen? ⟨p, 0, none⟩ = false ∧ W.frozen? ⟨w.heap.size + 1, 0, none⟩ = false :=
  ⟨h.t.cell 0, h.r.cell 0, h.t.frozen 0, h.r.frozen 0⟩
theorem MX.set (h : MX w A C p A1 T1 c1 W) (hb : Below W.heap.size W W2) (ht : Tab W2 A2 T2) (hc : T2.length ≤ c2) (hf : Fr A1 T1 W A2) (hle : w.heap.size ≤ p := by simp) : MX w A C p A2 T2 c2 (W2.setCell ⟨p, 0, none⟩ (.slice A2 T2.length c2)) := by
  have h2 := h.below hb
  have hp := h.t.lt
  have hfr : ∀ b, A2 = some b → 0 < T2.length → b.block ≠ p ∧ ((A = some b ∧ 0 < C.length ∧ b.block < w.heap.size) ∨ w.heap.size + 2 ≤ b.block) := fun b e h0 => by
    rcases hf b e with ⟨e1, h1⟩ | h1
    · exact h.fr b e1 h1
    · have := h.r.lt
      exact ⟨by omega, .inr (by omega)⟩
  have hk := Kept.set1 W2 p 0 (.slice A2 T2.length c2)
  have ht' := h2.t.set_ 0 (.slice A2 T2.length c2)
  simp only [zza, zzb] at ht'
  refine ⟨ht', h2.r.kept hk (by have := h.hp; omega), h.hp, ht.kept0 hk fun b e h0 => (hfr b e h0).1, hfr, hc, h2.bel.setCell hle _⟩
theorem MX.into (h : MX w A C p A1 T1 c1 W) (hb : Below W.heap.size W W2) (ht : Tab W2 A2 T2) (hc : T2.length ≤ c2) (hf : Fr A1 T1 W A2) : MX w A C W2.heap.size A2 T2 c2 (W2.alloc (.cells #[.slice A2 T2.length c2] 33)) := by
  have h2 := h.below hb
  have hr := h2.r.lt
  have hbA : Below W2.heap.size W2 (W2.alloc (.cells #[.slice A2 T2.length c2] 33)) := (Below.refl _ W2).alloc (Nat.le_refl _) _
  refine ⟨Blk.new W2 _ _, h2.r.below hbA hr, by omega, ht.below hbA, fun b e h0 => ⟨by have := Tab.lt (e ▸ ht) h0; omega, ?_⟩, hc, h2.bel.trans (hbA.mono h2.bel.size)⟩
  rcases hf b e with ⟨e1, h1⟩ | h1
  · exact (h.fr b e1 h1).2
  · have := h.r.lt
    exact .inr (by omega)
theorem MX.ret_in (h : MX w A C p A1 T1 c1 W) (h0 : 0 < T1.length) {id er : Int} (hq : Q T1 id er) : OutT A C Q w (.returned (.tuple #[.agg #[.slice A1 T1.length c1], .int .i64 id, .int .i64 er])) (W.setCell ⟨w.heap.size + 1, 0, none⟩ (.slice A1 T1.length c1)) := by
  refine ⟨A1, c1, T1, id, er, rfl, h.tab.kept0 (Kept.set1 W (w.heap.size + 1) 0 _) (fun b e h0 => ?_), h.hc, fun b e => ?_, hq, h.bel.setCell (by simp) _⟩
  · have := (h.fr b e h0).2
    omega
  · exact (h.fr b e h0).2.imp (fun h => ⟨h.1, h.2.1⟩) (fun h => by omega)
theorem MX.ret_call (h : MX w A C p A1 T1 c1 W) (hb : Below W.heap.size W W2) (ht : Tab W2 A2 T2) (hc : T2.length ≤ c2) (hf : Fr A1 T1 W A2) {id er : Int} (hq : Q T2 id er) : OutT A C Q w (.returned (.tuple #[.agg #[.slice A2 T2.length c2], .int .i64 id, .int .i64 er])) (W2.setCell ⟨w.heap.size + 1, 0, none⟩ (.slice A2 T2.length c2)) := by
  have h2 := h.below hb
  have hr := h.r.lt
  have hfr : ∀ b, A2 = some b → (A = some b ∧ 0 < C.length ∧ b.block < w.heap.size) ∨ w.heap.size + 2 ≤ b.block := fun b e => by
    rcases hf b e with ⟨e1, h1⟩ | h1
    · exact (h.fr b e1 h1).2
    · exact .inr (by omega)
  refine ⟨A2, c2, T2, id, er, rfl, ht.kept1 (Kept.set1 W2 (w.heap.size + 1) 0 _) (fun b e => ?_), hc, fun b e => ?_, hq, h2.bel.setCell (by simp) _⟩
  · have := hfr b e
    omega
  · exact (hfr b e).imp (fun h => ⟨h.1, h.2.1⟩) (fun h => by omega)
theorem MX.ret_bad (h : MX w A C p A1 T1 c1 W) {id er : Int} (hq : Q [] id er) : OutT A C Q w (.returned (.tuple #[.agg #[.slice none 0 0], .int .i64 id, .int .i64 er])) (W.setCell ⟨w.heap.size + 1, 0, none⟩ (.slice none 0 0)) :=
  ⟨none, 0, [], id, er, rfl, ⟨by simp, .inl rfl⟩, Nat.le_refl _, fun b e => (by cases e), hq, h.bel.setCell (by simp) _⟩
theorem MX.res (h : MX w A C p A1 T1 c1 W) (v : Value) : (W.setCell ⟨w.heap.size + 1, 0, none⟩ v).cell? ⟨w.heap.size + 1, 0, none⟩ = some v := by
  have c1 := (h.r.set_ 0 v).cell 0
  simp only [zzg, zzi, zza, zzb] at c1
  exact c1
theorem PutIs.out {r : PutR} {e : Ending} (h : PutIs A C r w e W) : OutT A C (fun T' id er => T' = r.T ∧ id = r.id ∧ er = r.e) w e W := by
  obtain ⟨A', c', h1, h2, h3, h4, h5⟩ := h
  exact ⟨A', c', r.T, r.id, r.e, h1, h2, h3, h4, ⟨rfl, rfl, rfl⟩, h5⟩
end
def ImgQ (C : List Nd) (most s : Int) (T' : List Nd) (id er : Int) : Prop := er = 0 → ImgS C T' id s ∧ (T'.length : Int) ≤ max (C.length : Int) most
theorem putT_most {T : List Nd} {n : Nd} {most : Int} (he : (putT T n most).e = 0) : ((putT T n most).T.length : Int) ≤ max (T.length : Int) most := by
  unfold putT at he ⊢
  split at he
  · rename_i h1
    rw [if_pos h1]
    split at he
    · rename_i h2
      rw [if_pos h2]
      show (T.length : Int) ≤ _
      omega
    · rename_i h2
      rw [if_neg h2]
      split at he
      · cases he
      · rename_i h3
        rw [if_neg h3]
        show ((T ++ [n]).length : Int) ≤ _
        rw [List.length_append, List.length_singleton]
        omega
  · cases he
theorem putL_most {T : List Nd} {op : Int} {V : List Int} {most : Int} (he : (putL T op V most).e = 0) : ((putL T op V most).T.length : Int) ≤ max (T.length : Int) most := by
  unfold putL at he ⊢
  cases ho : opL op (V.map fun x => (ndAt T x).sort) with
  | none => rw [ho] at he; cases he
  | some s =>
    rw [ho] at he
    exact putT_most he
theorem leT_most {T : List Nd} {a b c most : Int} (he : (leT T a b c most).e = 0) : ((leT T a b c most).T.length : Int) ≤ max (T.length : Int) most := by
  unfold leT at he ⊢
  split at he
  · rename_i h1
    exact absurd he h1
  rename_i h1
  rw [if_neg h1]
  split at he
  · rename_i h2
    rw [if_pos h2]
    exact putT_most he
  · rename_i h2
    rw [if_neg h2]
    split at he
    · rename_i h3
      rw [if_pos h3]
      show (T.length : Int) ≤ _
      omega
    · rename_i h3
      rw [if_neg h3]
      exact putT_most he
def numNd (n : Int) : Nd := ⟨10, 0, 0, 0, 0, 1, 0, n⟩
def addNd (b n : Int) : Nd := ⟨11, 1, b, 0, 0, 1, 0, n⟩
theorem num_img {C : List Nd} (h : Well C) (hi : IteOk C) {n most : Int} (he : (putT C (numNd n) most).e = 0) : ImgS C (putT C (numNd n) most).T (putT C (numNd n) most).id 1 := by
  have := put1_of (n := numNd n) h (fun ho => absurd ho (by show (10 : Int) ≠ 11; decide)) (by simp [fitB, numNd]) (fun _ => rfl) (fun ho => absurd ho (by show (10 : Int) ≠ 6; decide)) (by show (10 : Int) ≠ 7; decide) he
  exact ⟨this.1.img h hi, by rw [this.2]; rfl⟩
theorem add_img {C : List Nd} (h : Well C) (hi : IteOk C) {b n most : Int} (hb : Shd C b) (hbb : (baseT C b).1 = b) (hb1 : b ≠ 1) (hn : n ≠ 0) (he : (putT C (addNd b n) most).e = 0) : ImgS C (putT C (addNd b n) most).T (putT C (addNd b n) most).id 1 := by
  have hop : (ndAt C b).op ≠ 11 ∧ (ndAt C b).op ≠ 10 := by
    refine ⟨fun ho => ?_, fun ho => ?_⟩
    · obtain ⟨k, hk, hkn, hst⟩ := h.core.ok.stands (ndAt_mem hb.lo hb.hi)
      have hka : (k : Int) = b := by
        obtain ⟨ak, rfl⟩ : ∃ n : Nat, b = n := ⟨b.toNat, by have := hb.lo; omega⟩
        have hlt := hb.hi
        rw [ndAt_nat (by omega)] at hkn
        obtain ⟨_, e2⟩ := List.getElem?_eq_some_iff.1 hkn
        have := (List.getElem_inj (i := k) (j := ak) (h₀ := hk) (h₁ := by omega) h.core.ok.once).1 e2
        omega
      have h1 := hst.one (.inr ho)
      have h2 : (baseT C b).1 = (ndAt C b).a0 := by unfold baseT; simp [ho]
      omega
    · have h2 : (baseT C b).1 = 1 := by unfold baseT; simp [ho]
      omega
  have := put1_of (n := addNd b n) h (fun _ => ⟨hn, hop.1, hop.2⟩) (by simp [fitB, addNd]) (fun _ => by show opSort 11 (ndAt C b).sort _ _ = some 1; rw [hb.sort]; rfl) (fun ho => absurd ho (by show (11 : Int) ≠ 6; decide)) (by show (11 : Int) ≠ 7; decide) he
  exact ⟨this.1.img h hi, by rw [this.2]; rfl⟩
theorem Well.ordB {C : List Nd} (h : Well C) : TabOk C → ordB C = true := fun _ => by
  have := coreB_iff.2 h.core
  unfold coreB at this
  simp only [Bool.and_eq_true] at this
  exact this.1.2
theorem Well.pos {C : List Nd} (h : Well C) : 0 < C.length := by have := h.core.ok.len; omega
theorem ImgQ.bad {C : List Nd} {most s id er : Int} (h : er ≠ 0) : ImgQ C most s [] id er := fun e => absurd e h
theorem numNd_wf {n : Int} (hn : In64 n) : NdWf (numNd n) := ⟨by simp [numNd], by simp [numNd], fun j => by unfold Nd.arg numNd; dsimp only; repeat' split <;> simp, by simp [numNd], by simp [numNd], hn⟩
theorem addNd_wf {b n : Int} (hb : In64 b) (hn : In64 n) : NdWf (addNd b n) := ⟨by simp [addNd], by simp [addNd], fun j => by
  unfold Nd.arg addNd
  dsimp only
  split
  · exact hb
  · split <;> simp, by simp [addNd], by simp [addNd], hn⟩
set_option maxRecDepth 100000 in
set_option maxHeartbeats 4000000 in
theorem rputn_ok {C : List Nd} {w : World} {A : Option Addr} (c : Nat) (b n most : Int) (hw : Well C) (hi : IteOk C) (hb : In64 b) (hn : In64 n) (hc : C.length ≤ c) (h : Tab w A C) (hl : C.length < 100000) :
    Calls Tryz.prog 115 #[.agg #[.slice A C.length c], .int .i64 b, .int .i64 n, .int .i64 most] w (OutT A C (ImgQ C most 1) w) := by
  have HX0 := zzh (MX.start h hc)
  have HW := zzh hw
  have HI := zzh hi
  have HN := zzh hn
  have HBb := zzh hb
  have HL := zzh hl
  have KO := zzh (rof_ok c b hb HX0.out.tab hw.ordB)
  clear hc h hw hi hn hb hl
  obtain ⟨s0, s1, s2, s3⟩ := HX0.out.cells
  go_enter Tryz.func115, Tryz.ntmps115
  go_wp2_with fail
  refine KO.out.mono ?_
  rintro e w1 ⟨rfl, hb1⟩
  have HX1 := zzh (HX0.out.below hb1)
  have KM := zzh (may5_ok n w1)
  obtain ⟨z0, z1, z2, z3⟩ := HX1.out.cells
  have HE := zzh (fun he => ofT_e (T := C) (a := b) he)
  clear hb1 s0 s1 s2 s3 KO
  generalize ofT C b = o at *
  obtain ⟨ob, on, oe⟩ := o
  dsimp only at HE ⊢
  by_cases he : oe = 0
  rotate_left
  · have d1 : (oe != 0) = true := by simpa using he
    have HNE := zzh he
    clear he
    go_wp2
    refine bodyPost_ret (v := .tuple #[.agg #[.slice none 0 0], .int .i64 0, .int .i64 oe]) (by simp [results, Tryz.results115, go_sem, HX1.out.res]) rfl ?_
    exact HX1.out.ret_bad (ImgQ.bad HNE.out)
  · subst he
    obtain ⟨hs, hob, _⟩ := HE.out rfl
    have HS := zzh hs
    by_cases hbb : ob = b
    rotate_left
    · have d1 : (ob != b) = true := by simpa using hbb
      clear hs hob hbb
      go_wp2
      refine bodyPost_ret (v := .tuple #[.agg #[.slice none 0 0], .int .i64 0, .int .i64 2]) (by simp [results, Tryz.results115, go_sem, HX1.out.res]) rfl ?_
      exact HX1.out.ret_bad (ImgQ.bad (by decide))
    · subst hbb
      have HBB := zzh hob.symm
      clear hs hob HE
      obtain ⟨mb, hmb⟩ : ∃ r, mayI n = r := ⟨_, rfl⟩
      rw [hmb] at KM
      clear hmb
      go_wp2_with fail
      refine KM.out.mono ?_
      rintro e w2 ⟨rfl, rfl⟩
      cases mb with
      | false =>
        go_wp2
        refine bodyPost_ret (v := .tuple #[.agg #[.slice none 0 0], .int .i64 0, .int .i64 10]) (by simp [results, Tryz.results115, go_sem, HX1.out.res]) rfl ?_
        exact HX1.out.ret_bad (ImgQ.bad (by decide))
      | true =>
        by_cases h1 : ob = 1
        · subst h1
          have KP : Calls Tryz.prog 123 #[.agg #[.slice A C.length c], .agg #[.int .i8 10, .int .i8 0, .int .i64 0, .int .i64 0, .int .i64 0, .int .i64 1, .int .i64 0, .int .i64 n], .int .i64 most] w1 (PutIs A C (putT C (numNd n) most) w1) := rput_ok c (numNd n) (numNd_wf HN.out) most HX1.out.hc HX1.out.tab HL.out
          have KP := zzh KP
          go_wp2_with fail
          refine KP.out.mono ?_
          rintro e w3 ⟨A', c', rfl, ht, hc', hf, hb3⟩
          have HE2 := zzh (fun he => And.intro (num_img HW.out HI.out (n := n) (most := most) he) (putT_most he))
          have HX2 := zzh (HX1.out.below hb3)
          have HTC := zzh (And.intro hb3 (And.intro ht (And.intro hc' hf)))
          obtain ⟨q0, q1, q2, q3⟩ := HX2.out.cells
          clear KP ht hc' hf hb3 z0 z1 z2 z3
          generalize putT C (numNd n) most = r at *
          obtain ⟨T', id', e'⟩ := r
          dsimp only at HE2 HTC
          go_wp2
          refine bodyPost_ret (v := .tuple #[.agg #[.slice A' T'.length c'], .int .i64 id', .int .i64 e']) (by simp [results, Tryz.results115, go_sem, HX2.out.res]) rfl ?_
          exact HX1.out.ret_call HTC.out.1 HTC.out.2.1 HTC.out.2.2.1 HTC.out.2.2.2 (fun he => HE2.out he)
        · have d5 : (ob == 1) = false := by simpa using h1
          have H1 := zzh h1
          clear h1
          by_cases h0 : n = 0
          · subst h0
            have HP := zzh (ImgS.refl HW.out HI.out HS.out.lo HS.out.hi)
            rw [HS.out.sort] at HP
            go_wp2
            refine bodyPost_ret (v := .tuple #[.agg #[.slice A C.length c], .int .i64 ob, .int .i64 0]) (by simp [results, Tryz.results115, go_sem, HX1.out.res]) rfl ?_
            exact HX1.out.ret_in HW.out.pos (fun _ => ⟨HP.out, by omega⟩)
          · have d6 : (n == 0) = false := by simpa using h0
            have H0 := zzh h0
            have KP : Calls Tryz.prog 123 #[.agg #[.slice A C.length c], .agg #[.int .i8 11, .int .i8 1, .int .i64 ob, .int .i64 0, .int .i64 0, .int .i64 1, .int .i64 0, .int .i64 n], .int .i64 most] w1 (PutIs A C (putT C (addNd ob n) most) w1) := rput_ok c (addNd ob n) (addNd_wf HBb.out HN.out) most HX1.out.hc HX1.out.tab HL.out
            have KP := zzh KP
            clear h0
            go_wp2_with fail
            refine KP.out.mono ?_
            rintro e w3 ⟨A', c', rfl, ht, hc', hf, hb3⟩
            have HE2 := zzh (fun he => And.intro (add_img HW.out HI.out (n := n) (most := most) HS.out HBB.out H1.out H0.out he) (putT_most he))
            have HX2 := zzh (HX1.out.below hb3)
            have HTC := zzh (And.intro hb3 (And.intro ht (And.intro hc' hf)))
            obtain ⟨q0, q1, q2, q3⟩ := HX2.out.cells
            clear KP ht hc' hf hb3 z0 z1 z2 z3
            generalize putT C (addNd ob n) most = r at *
            obtain ⟨T', id', e'⟩ := r
            dsimp only at HE2 HTC
            go_wp2
            refine bodyPost_ret (v := .tuple #[.agg #[.slice A' T'.length c'], .int .i64 id', .int .i64 e']) (by simp [results, Tryz.results115, go_sem, HX2.out.res]) rfl ?_
            exact HX1.out.ret_call HTC.out.1 HTC.out.2.1 HTC.out.2.2.1 HTC.out.2.2.2 (fun he => HE2.out he)
theorem addN_e {a b : Int} (h : (addN a b).2 = 0) : In64 (addN a b).1 := by
  rcases addN_cases a b with ⟨_, _, h3, e⟩ | ⟨_, e⟩
  · rw [e]
    rw [mayI_iff] at h3
    unfold In64
    show -9223372036854775808 ≤ a + b ∧ a + b ≤ 9223372036854775807
    omega
  · rw [e] at h
    cases h
theorem Well.base_in {C : List Nd} (h : Well C) {a : Int} (ha : Shd C a) : 0 ≤ (baseT C a).1 ∧ (baseT C a).1 < C.length := by
  have := (base_own h.core h.sum ha)
  exact ⟨this.2.1, this.2.2.1⟩
set_option maxRecDepth 100000 in
set_option maxHeartbeats 4000000 in
theorem raddn_ok {C : List Nd} {w : World} {A : Option Addr} (c : Nat) (a n most : Int) (hw : Well C) (hi : IteOk C) (ha : In64 a) (hc : C.length ≤ c) (h : Tab w A C) (hl : C.length < 100000) :
    Calls Tryz.prog 116 #[.agg #[.slice A C.length c], .int .i64 a, .int .i64 n, .int .i64 most] w (OutT A C (ImgQ C most 1) w) := by
  have HX0 := zzh (MX.start h hc)
  have HW := zzh hw
  have HI := zzh hi
  have HL := zzh hl
  have KO := zzh (rof_ok c a ha HX0.out.tab hw.ordB)
  clear hc h hw hi ha hl
  obtain ⟨s0, s1, s2, s3⟩ := HX0.out.cells
  go_enter Tryz.func116, Tryz.ntmps116
  go_wp2_with fail
  refine KO.out.mono ?_
  rintro e w1 ⟨rfl, hb1⟩
  have HX1 := zzh (HX0.out.below hb1)
  obtain ⟨z0, z1, z2, z3⟩ := HX1.out.cells
  have HE := zzh (fun he => ofT_e (T := C) (a := a) he)
  clear hb1 s0 s1 s2 s3 KO
  generalize ofT C a = o at *
  obtain ⟨ob, on, oe⟩ := o
  dsimp only at HE ⊢
  by_cases he : oe = 0
  rotate_left
  · have d1 : (oe != 0) = true := by simpa using he
    have HNE := zzh he
    clear he
    go_wp2
    refine bodyPost_ret (v := .tuple #[.agg #[.slice none 0 0], .int .i64 0, .int .i64 oe]) (by simp [results, Tryz.results116, go_sem, HX1.out.res]) rfl ?_
    exact HX1.out.ret_bad (ImgQ.bad HNE.out)
  · subst he
    obtain ⟨hs, hob, hon⟩ := HE.out rfl
    have HBI : Hid (In64 ob) := zzh (by have := HW.out.base_in hs; have := HL.out; unfold In64; omega)
    have KA := zzh (radd_ok on n w1)
    have HAe := zzh (fun he => addN_e (a := on) (b := n) he)
    clear hs hob hon HE
    generalize addN on n = p at *
    obtain ⟨s, er⟩ := p
    dsimp only at KA HAe
    go_wp2_with fail
    refine KA.out.mono ?_
    rintro e w2 ⟨rfl, rfl⟩
    by_cases he2 : er = 0
    rotate_left
    · have d1 : (er != 0) = true := by simpa using he2
      have HNE := zzh he2
      clear he2
      go_wp2
      refine bodyPost_ret (v := .tuple #[.agg #[.slice none 0 0], .int .i64 0, .int .i64 er]) (by simp [results, Tryz.results116, go_sem, HX1.out.res]) rfl ?_
      exact HX1.out.ret_bad (ImgQ.bad HNE.out)
    · subst he2
      have KP := zzh (rputn_ok c ob s most HW.out HI.out HBI.out (HAe.out rfl) HX1.out.hc HX1.out.tab HL.out)
      go_wp2_with fail
      refine KP.out.mono ?_
      rintro e w3 ⟨A', c', T', id', e', rfl, ht, hc', hf, hq, hb3⟩
      have HY := zzh (HX1.out.below hb3)
      have HTC := zzh (And.intro hb3 (And.intro ht (And.intro hc' (And.intro hf hq))))
      obtain ⟨q0, q1, q2, q3⟩ := HY.out.cells
      clear ht hc' hf hb3 hq z0 z1 z2 z3
      go_wp2
      refine bodyPost_ret (v := .tuple #[.agg #[.slice A' T'.length c'], .int .i64 id', .int .i64 e']) (by simp [results, Tryz.results116, go_sem, HY.out.res]) rfl ?_
      exact HX1.out.ret_call HTC.out.1 HTC.out.2.1 HTC.out.2.2.1 HTC.out.2.2.2.1 (HTC.out.2.2.2.2)
theorem OutT.drew {A : Option Addr} {C : List Nd} {Q : List Nd → Int → Int → Prop} {w W : World} {e : Ending} (h : OutT A C Q w e W) : OutT A C Q w e W.drew := by
  obtain ⟨A', c', T', id, er, h1, h2, h3, h4, h5, h6⟩ := h
  exact ⟨A', c', T', id, er, h1, h2.drewN 1, h3, h4, h5, below_drewN h6 1⟩
theorem row1 (w : World) (x : Int) : Row (w.alloc (.cells #[.int .i64 x] 3)) (some ⟨w.heap.size, 0, none⟩) [x] :=
  ⟨by simp, .inr ⟨w.heap.size, 0, rfl, (Blk.new w _ _).lt, fun i hi => by
    have : i = 0 := by simp at hi; omega
    subst this
    exact (Blk.new w 3 #[.int .i64 x]).cell 0⟩⟩
theorem row2 (w : World) (x y : Int) : Row (w.alloc (.cells #[.int .i64 x, .int .i64 y] 3)) (some ⟨w.heap.size, 0, none⟩) [x, y] :=
  ⟨by simp, .inr ⟨w.heap.size, 0, rfl, (Blk.new w _ _).lt, fun i hi => by
    rcases (show i = 0 ∨ i = 1 by simp at hi; omega) with rfl | rfl
    · exact (Blk.new w 3 #[.int .i64 x, .int .i64 y]).cell 0
    · exact (Blk.new w 3 #[.int .i64 x, .int .i64 y]).cell 1⟩⟩
theorem row3 (w : World) (x y z : Int) : Row (w.alloc (.cells #[.int .i64 x, .int .i64 y, .int .i64 z] 3)) (some ⟨w.heap.size, 0, none⟩) [x, y, z] :=
  ⟨by simp, .inr ⟨w.heap.size, 0, rfl, (Blk.new w _ _).lt, fun i hi => by
    rcases (show i = 0 ∨ i = 1 ∨ i = 2 by simp at hi; omega) with rfl | rfl | rfl
    · exact (Blk.new w 3 #[.int .i64 x, .int .i64 y, .int .i64 z]).cell 0
    · exact (Blk.new w 3 #[.int .i64 x, .int .i64 y, .int .i64 z]).cell 1
    · exact (Blk.new w 3 #[.int .i64 x, .int .i64 y, .int .i64 z]).cell 2⟩⟩
theorem not_img {C : List Nd} (h : Well C) (hi : IteOk C) {x : Int} (h0 : 0 ≤ x) (h1 : x < C.length) (ho : (ndAt C x).op = 1) : ImgS C C (ndAt C x).a0 0 := by
  obtain ⟨k, hk, hkn, hst⟩ := h.core.ok.stands (ndAt_mem h0 h1)
  have ha := hst.one (.inl ho)
  have hs := h.srt _ (ndAt_mem h0 h1) (by omega)
  have hs0 : (ndAt C (ndAt C x).a0).sort = 0 := by
    rw [ho] at hs
    unfold opSort at hs
    simp at hs
    exact hs.1
  have := ImgS.refl h hi (id := (ndAt C x).a0) (by omega) (by omega)
  rwa [hs0] at this
set_option maxRecDepth 100000 in
set_option maxHeartbeats 4000000 in
theorem cnot_ok {C : List Nd} {w : World} {A : Option Addr} (c : Nat) (x : Nat) (most : Int) (hw : Well C) (hi : IteOk C) (hx : x < C.length) (hc : C.length ≤ c) (h : Tab w A C) (hl : C.length < 100000) :
    Calls Tryz.prog 117 #[.agg #[.slice A C.length c], .int .i64 x, .int .i64 most] w (OutT A C (ImgQ C most 0) w) := by
  obtain ⟨w0, hw0⟩ : ∃ w0, ((w.alloc (.cells #[.slice A C.length c] 33)).alloc (.cells #[.slice none 0 0] 33)) = w0 := ⟨_, rfl⟩
  have HX0 : Hid (MX w A C w.heap.size A C c w0) := zzh (hw0 ▸ MX.start h hc)
  have HW := zzh hw
  have HI := zzh hi
  have HL := zzh hl
  have HX := zzh hx
  have HS : Hid (∀ n ∈ C, 0 ≤ n.sort) := zzh (fun n hn => by obtain ⟨_, _, _, hst⟩ := hw.core.ok.stands hn; exact hst.srt.1)
  obtain ⟨g, goff, hA, hgb, hgc⟩ := h.at_.resolve_left (by omega)
  obtain ⟨g', goff', hA', hgb', hgc'⟩ := HX0.out.tab.at_.resolve_left (by omega)
  rw [hA] at hA'
  cases hA'
  obtain ⟨y0, _, y2, _, _, _, _, _⟩ := (hgc' x hx).all
  subst hA
  have hnd : ndAt C (x : Int) = C[x] := ndAt_nat hx
  have HND := zzh hnd
  have HG := zzh hgb
  clear hc h hw hi hl hgc hgc' hgb' hnd
  have t1 : (0 : Int) ≤ (x : Int) := by omega
  have t2 : (x : Int) < (C.length : Int) := by omega
  obtain ⟨s0, s1, s2, s3⟩ := HX0.out.cells
  generalize C[x] = m at *
  by_cases ho : m.op = 1
  · have d1 : (m.op == 1) = true := by simpa using ho
    have HQ : Hid (ImgS C C m.a0 0) := zzh (HND.out ▸ not_img HW.out HI.out (x := x) (by omega) (by omega) (by rw [HND.out]; exact ho))
    have u0 : (w0.setCell ⟨w.heap.size + 1, 0, none⟩ (.slice (some ⟨g, goff, none⟩) C.length c)).cell? ⟨w.heap.size, 0, none⟩ = some (.slice (some ⟨g, goff, none⟩) C.length c) := (HX0.out.t.far (p := ⟨w.heap.size + 1, 0, none⟩) (by simp) _).cell 0
    have u2 : (w0.setCell ⟨w.heap.size + 1, 0, none⟩ (.slice (some ⟨g, goff, none⟩) C.length c)).cell? ⟨g, goff + x * 8 + 2, none⟩ = some (.int .i64 m.a0) := by
      rw [← y2]
      unfold World.cell?
      rw [Below.heap_setCell w0 _ _ g (by have := HG.out; show g ≠ w.heap.size + 1; omega)]
    clear ho
    go_enter Tryz.func117, Tryz.ntmps117
    go_wp2_with fail
    go_region_held3 (fun w' => w'.cell? ⟨w.heap.size, 0, none⟩ = some (.slice (some ⟨g, goff, none⟩) C.length c) ∧ w'.cell? ⟨g, goff + x * 8 + 2, none⟩ = some (.int .i64 m.a0)) (go_keep) (fail)
    go_wp2
    refine bodyPost_ret (v := .tuple #[.agg #[.slice (some ⟨g, goff, none⟩) C.length c], .int .i64 m.a0, .int .i64 0]) (by simp [results, Tryz.results117, go_sem, HX0.out.res]) rfl ?_
    exact OutT.drew (HX0.out.ret_in HW.out.pos (show ImgQ C most 0 C m.a0 0 from fun _ => ⟨HQ.out, by omega⟩))
  · have d1 : (m.op == 1) = false := by simpa using ho
    have HO := zzh ho
    have hbA : Below w0.heap.size w0 (w0.alloc (.cells #[.int .i64 x] 3)) := (Below.refl _ w0).alloc (Nat.le_refl _) _
    have HXA := zzh (HX0.out.below hbA)
    have KP : Hid (Calls Tryz.prog 118 #[.agg #[.slice (some ⟨g, goff, none⟩) C.length c], .int .i8 1, .slice (some ⟨w0.heap.size, 0, none⟩) 1 1, .int .i64 most] (w0.alloc (.cells #[.int .i64 x] 3)) (PutIs (some ⟨g, goff, none⟩) C (putL C 1 [(x : Int)] most) (w0.alloc (.cells #[.int .i64 x] 3)))) := zzh (cput_ok c (.inr (.inl rfl)) most (V := [(x : Int)]) 1 HXA.out.hc HXA.out.tab HS.out HL.out (row1 w0 x) (by simp) (fun y hy => by rw [List.mem_singleton.1 hy]; omega))
    clear ho y2 hbA
    go_enter Tryz.func117, Tryz.ntmps117
    go_wp2_with fail
    refine KP.out.mono ?_
    rintro e w3 ⟨A', c', rfl, ht, hc', hf, hb3⟩
    have HE2 := zzh (fun he => And.intro (putL_img HW.out HI.out (op := 1) (V := [(x : Int)]) (most := most) (.inl rfl) (fun _ => by show (ndAt C (x : Int)).op ≠ 1; rw [HND.out]; exact HO.out) (fun e => by cases e) he).1 (putL_most he))
    clear KP
    generalize putL C 1 [(x : Int)] most = r at *
    obtain ⟨T', id', e'⟩ := r
    dsimp only at HE2 ht hc'
    have hq : True := trivial
    have HY := zzh (HXA.out.below hb3)
    have HTC := zzh (And.intro hb3 (And.intro ht (And.intro hc' (And.intro hf hq))))
    obtain ⟨q0, q1, q2, q3⟩ := HY.out.cells
    clear ht hc' hf hb3 hq s0 s1 s2 s3
    go_wp2
    refine bodyPost_ret (v := .tuple #[.agg #[.slice A' T'.length c'], .int .i64 id', .int .i64 e']) (by simp [results, Tryz.results117, go_sem, HY.out.res]) rfl ?_
    exact HXA.out.ret_call HTC.out.1 HTC.out.2.1 HTC.out.2.2.1 HTC.out.2.2.2.1 (fun he => HE2.out he)
end Go.Proofs.YtlipnnibagidiaaGreat

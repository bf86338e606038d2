/- turn. -/
import Derived.Test.YtkapbdjobfbhhaaGreatEuN
import Derived.Test.YtkapbdjobfbhhaaGreatCounts
import Derived.StillTailTactics
import Derived.Deep.RegionHeld3
namespace Go.Proofs.YtkapbdjobfbhhaaGreat
open Go.RowKit Go.Lib
def Fo (w : World) (P : Nat → Prop) (bf : Nat) (n : Int) (J : List Jn) (m : Nat) : Prop :=
  ∃ B bn bp lj N k, FR w B bf bn bp lj N n J k ∧ k ≤ m ∧ ∀ b, Foot bf bn bp lj N b → ¬ P b
section
variable {w w' : World} {P : Nat → Prop} {bf m : Nat} {n : Int} {J : List Jn}
theorem foot_lt {B bn bp : Nat} {lj : Value} {N : Int → Value} {k : Nat} (h : FR w B bf bn bp lj N n J k) {b : Nat} (hb : Foot bf bn bp lj N b) : b < w.heap.size := by
  obtain ⟨l1, l2, l3, l4, l5⟩ := h.lts
  rcases hb with rfl | rfl | rfl | hb | ⟨x, hb⟩
  · exact l1
  · exact l2
  · exact l3
  · exact l4 b hb
  · exact l5 x b hb
theorem Fo.keep {S : Nat → Prop} (h : Fo w P bf n J m) (hk : Kept S w w') (hs : ∀ b, b < w.heap.size → S b → P b) : Fo w' P bf n J m := by
  obtain ⟨B, bn, bp, lj, N, k, h1, h2, h3⟩ := h
  have hn : ∀ b, Foot bf bn bp lj N b → ¬ S b := fun b hb hS => h3 b hb (hs b (foot_lt h1 hb) hS)
  exact ⟨B, bn, bp, lj, N, k, h1.keep hk (hn _ (.inl rfl)) (hn _ (.inr (.inl rfl))) (hn _ (.inr (.inr (.inl rfl)))) (fun g hg => hn g (.inr (.inr (.inr (.inl hg))))) (fun x g hg => hn g (.inr (.inr (.inr (.inr ⟨x, hg⟩))))), h2, h3⟩
theorem Fo.below (h : Fo w P bf n J m) (hb : Below w.heap.size w w') : Fo w' P bf n J m := h.keep (Kept.of_below (S := fun _ => False) hb) fun _ _ hf => hf.elim
theorem Fo.mono (h : Fo w P bf n J m) {m' : Nat} (hm : m ≤ m') : Fo w P bf n J m' := by
  obtain ⟨B, bn, bp, lj, N, k, h1, h2, h3⟩ := h
  exact ⟨B, bn, bp, lj, N, k, h1, Nat.le_trans h2 hm, h3⟩
theorem Fo.fine (h : Fo w P bf n J m) : Fine n J := by
  obtain ⟨B, bn, bp, lj, N, k, h1, h2, h3⟩ := h
  exact h1.fine
theorem Fo.guard (h : Fo w P bf n J m) {Q : Nat → Prop} (hQ : ∀ b, Q b → P b ∨ w.heap.size ≤ b) : Fo w Q bf n J m := by
  obtain ⟨B, bn, bp, lj, N, k, h1, h2, h3⟩ := h
  refine ⟨B, bn, bp, lj, N, k, h1, h2, fun b hb hq => ?_⟩
  rcases hQ b hq with hp | hp
  · exact h3 b hb hp
  · have := foot_lt h1 hb
    omega
theorem fo_join (h : Fo w P bf n J m) (hP : ∀ b, P b → b < w.heap.size) (hm : m ≤ 1000000) (a b r : Int) :
    Calls Tryz.prog 87 #[.pointer (some ⟨bf, 0, none⟩), .int .i64 a, .int .i64 b, .int .i64 r] w fun e w' => e = .returned (.tuple #[.bool (joinsM n J a b), .int .i64 (joinE n a b)]) ∧ Fo w' P bf n (joinM n J a b r) (m + 3) ∧ Kept (fun b => ¬ P b) w w' := by
  obtain ⟨B, bn, bp, lj, N, k, h1, h2, h3⟩ := h
  refine (join_ok h1 (by omega) a b r).mono ?_
  rintro e w' ⟨lj', N', he, g1, g2, g3⟩
  refine ⟨he, ⟨B, bn, bp, lj', N', k + 3, g1, by omega, fun b hb hp => ?_⟩, g2.mono fun b _ hb => h3 b hb⟩
  rcases g3 b hb with g | g
  · exact h3 b g hp
  · have := hP b hp
    omega
theorem fo_one (h : Fo w P bf n J m) (hm : m ≤ 1000000) (x y : Int) :
    Calls Tryz.prog 53 #[.pointer (some ⟨bf, 0, none⟩), .int .i64 x, .int .i64 y] w fun e w' => e = .returned (.bool (oneM n J x y)) ∧ Fo w' P bf n J (m + 1) ∧ Kept (fun b => ¬ P b) w w' := by
  obtain ⟨B, bn, bp, lj, N, k, h1, h2, h3⟩ := h
  refine (one_ok h1 (by omega) x y).mono ?_
  rintro e w' ⟨he, g1, g2⟩
  exact ⟨he, ⟨B, bn, bp, lj, N, k + 1, g1, by omega, h3⟩, g2.mono fun b _ hb => h3 b (.inr (.inr (.inl hb)))⟩
theorem fo_rep (h : Fo w P bf n J m) (x : Int) (hx : 0 ≤ x ∧ x < n) :
    Calls Tryz.prog 27 #[.pointer (some ⟨bf, 0, none⟩), .int .i64 x] w fun e w' => ∃ r, e = .returned (.int .i64 r) ∧ RepR n J x r ∧ Below w.heap.size w w' := by
  obtain ⟨B, bn, bp, lj, N, k, h1, h2, h3⟩ := h
  exact rep_ok h1 x hx
theorem fo_new (n : Int) (h0 : 0 ≤ n) (hn : n ≤ 4096) (w : World) :
    Calls Tryz.prog 48 #[.int .i64 n] w fun e w' => ∃ bf, e = .returned (.pointer (some ⟨bf, 0, none⟩)) ∧ Fo w' (fun b => b < w.heap.size) bf n [] 0 ∧ Below w.heap.size w w' := by
  refine (new_ok n h0 hn w).mono ?_
  rintro e w' ⟨bf, bn, bp, he, h1, h2⟩
  refine ⟨bf, he, ⟨_, bn, bp, _, _, 0, h1, Nat.le_refl _, fun b hb hlt => ?_⟩, h2⟩
  have := h1.hbf
  have := h1.hbn
  have := h1.hbp
  rcases hb with rfl | rfl | rfl | hb | ⟨x, hb⟩
  · omega
  · omega
  · omega
  · cases hb
  · cases hb
end
structure Cl (w : World) (H : Nat) (X : Nat → Prop) (cb q bf : Nat) (A : Option Addr) (c : Nat) (T : List Nd) (J : List Jn) (m : Nat) (more : Bool) : Prop where
  blk : Blk w cb 78 #[.pointer (some ⟨q, 0, none⟩), .pointer (some ⟨bf, 0, none⟩), .int .i64 T.length, .bool more]
  tab : TabP w q A c T
  fo : Fo w (fun b => b < H ∨ X b ∨ b = cb) bf (T.length + 1) J m
  hq : q < H
  hA : ∀ a, A = some a → a.block < H
  hcb : H ≤ cb ∧ ¬ X cb
  hX : ∀ b, X b → b < w.heap.size
  hH : H ≤ w.heap.size
  hT : T.length ≤ 4000
section
variable {w w' : World} {H : Nat} {X : Nat → Prop} {cb q bf : Nat} {A : Option Addr} {c : Nat} {T : List Nd} {J : List Jn} {m : Nat} {more : Bool}
theorem TabP.kept {S : Nat → Prop} (h : TabP w q A c T) (hk : Kept S w w') (h1 : ¬ S q) (h2 : ∀ a, A = some a → ¬ S a.block) : TabP w' q A c T := by
  refine ⟨h.blk.kept hk h1, ⟨h.tab.len, ?_⟩, h.cap⟩
  refine h.tab.at_.imp id fun ⟨b, off, e, hlt, hn⟩ => ⟨b, off, e, Nat.lt_of_lt_of_le hlt hk.size, fun i hi => ?_⟩
  have hb := hk.block b hlt (h2 _ e)
  refine ⟨Nat.lt_of_lt_of_le hlt hk.size, fun j hj => ?_, (hn i hi).wf⟩
  rw [← (hn i hi).cells j hj]
  simp only [World.cell?]
  rw [hb]
theorem Cl.keep {S : Nat → Prop} (h : Cl w H X cb q bf A c T J m more) (hk : Kept S w w') (hs : ∀ b, b < w.heap.size → S b → H ≤ b ∧ b ≠ cb ∧ X b) : Cl w' H X cb q bf A c T J m more := by
  refine ⟨h.blk.kept hk fun hS => (hs cb h.blk.lt hS).2.1 rfl, h.tab.kept hk (fun hS => ?_) (fun a e hS => ?_), h.fo.keep hk fun b hb hS => .inr (.inl (hs b hb hS).2.2), h.hq, h.hA, h.hcb, fun b hb => Nat.lt_of_lt_of_le (h.hX b hb) hk.size, Nat.le_trans h.hH hk.size, h.hT⟩
  · have := (hs q h.tab.blk.lt hS).1
    have := h.hq
    omega
  · have h1 := h.hA a e
    have := (hs a.block (Nat.lt_of_lt_of_le h1 h.hH) hS).1
    omega
theorem Cl.below (h : Cl w H X cb q bf A c T J m more) (hb : Below w.heap.size w w') : Cl w' H X cb q bf A c T J m more := h.keep (Kept.of_below (S := fun _ => False) hb) fun _ _ hf => hf.elim
theorem Cl.mono (h : Cl w H X cb q bf A c T J m more) {m' : Nat} (hm : m ≤ m') : Cl w H X cb q bf A c T J m' more := { h with fo := h.fo.mono hm }
theorem Cl.guard (h : Cl w H X cb q bf A c T J m more) {Y : Nat → Prop} (hY : ∀ b, Y b → X b ∨ w.heap.size ≤ b) (hY2 : ∀ b, Y b → b < w'.heap.size) (hb : Below w.heap.size w w') : Cl w' H Y cb q bf A c T J m more := by
  have h2 := h.below hb
  refine { h2 with fo := (h.fo.guard fun b hq => ?_).below hb, hcb := ⟨h.hcb.1, fun hy => ?_⟩, hX := hY2 }
  · rcases hq with hq | hq | hq
    · exact .inl (.inl hq)
    · exact (hY b hq).imp (fun h => .inr (.inl h)) id
    · exact .inl (.inr (.inr hq))
  · rcases hY cb hy with g | g
    · exact h.hcb.2 g
    · have := h.blk.lt
      omega
theorem Cl.less (h : Cl w H X cb q bf A c T J m more) {Y : Nat → Prop} (hY : ∀ b, Y b → X b) : Cl w H Y cb q bf A c T J m more := by
  refine { h with fo := h.fo.guard fun b hq => .inl ?_, hcb := ⟨h.hcb.1, fun hy => h.hcb.2 (hY _ hy)⟩, hX := fun b hb => h.hX b (hY b hb) }
  rcases hq with hq | hq | hq
  · exact .inl hq
  · exact .inr (.inl (hY b hq))
  · exact .inr (.inr hq)
def Kc (H : Nat) (X : Nat → Prop) (w w' : World) : Prop := Kept (fun b => ¬ (b < H ∨ X b)) w w'
theorem Kc.refl (w : World) : Kc H X w w := Kept.refl _ _
theorem Kc.trans {w2 : World} (h : Kc H X w w') (k : Kc H X w' w2) : Kc H X w w2 := Kept.trans h k
theorem Kc.of_below (h : Below w.heap.size w w') : Kc H X w w' := Kept.of_below h
theorem Kc.below (h : Kc H X w w') (hH : H ≤ w.heap.size) : Below H w w' := Kept.below h hH fun _ hk => Nat.le_of_not_lt fun hl => hk (.inl hl)
set_option maxRecDepth 100000 in
theorem cjoin_ok (h : Cl w H X cb q bf A c T J m more) (hm : m ≤ 1000000) (a b : Int) :
    Calls Tryz.prog 71 #[.pointer (some ⟨cb, 0, none⟩), .int .i64 a, .int .i64 b] w fun e w' => e = .returned (.tuple #[]) ∧ Cl w' H X cb q bf A c T (joinM (T.length + 1) J a b 0) (m + 3) (more || joinsM (T.length + 1) J a b) ∧ Kc H X w w' := by
  have c1 := h.blk.cell 1
  simp only [List.getElem?_toArray, List.getElem?_cons_zero, List.getElem?_cons_succ] at c1
  have hl := h.blk.lt
  have HH := Lib.hid h
  have KJ := Lib.hid (fo_join h.fo (fun b hb => by
    rcases hb with hb | hb | rfl
    · exact Nat.lt_of_lt_of_le hb h.hH
    · exact h.hX b hb
    · exact h.blk.lt) hm a b 0)
  clear h
  obtain ⟨jb, hjb⟩ : ∃ jb, joinsM (T.length + 1) J a b = jb := ⟨_, rfl⟩
  rw [hjb] at KJ ⊢
  clear hjb
  go_enter Tryz.func71, Tryz.ntmps71
  go_wp2_with fail
  refine KJ.out.mono ?_
  rintro e w1 ⟨rfl, hfo, hk⟩
  have hb1 := HH.out.blk.kept hk (fun hn => hn (.inr (.inr rfl)))
  have ht1 := HH.out.tab.kept hk (fun hn => hn (.inl HH.out.hq)) (fun x e hn => hn (.inl (HH.out.hA x e)))
  have hc1 : Cl w1 H X cb q bf A c T (joinM (T.length + 1) J a b 0) (m + 3) more := ⟨hb1, ht1, hfo, HH.out.hq, HH.out.hA, HH.out.hcb, fun b hb => Nat.lt_of_lt_of_le (HH.out.hX b hb) hk.size, Nat.le_trans HH.out.hH hk.size, HH.out.hT⟩
  have hkc : Kc H X w w1 := hk.mono fun b _ hb hn => hb (hn.imp id .inl)
  have hlt := hb1.lt
  have c3 := hb1.cell 3
  have f3 := hb1.frozen 3
  simp only [List.getElem?_toArray, List.getElem?_cons_zero, List.getElem?_cons_succ] at c3
  have H1 := Lib.hid hc1
  have K1 := Lib.hid hkc
  clear hfo hk hb1 ht1 hc1 hkc
  cases jb with
  | false =>
    go_wp2
    refine bodyPost_end (results_none rfl _ _ _) rfl ?_
    refine ⟨rfl, ?_, K1.out⟩
    rw [Bool.or_false]
    exact H1.out
  | true =>
    go_wp2
    refine bodyPost_end (results_none rfl _ _ _) rfl ?_
    refine ⟨rfl, ?_, ?_⟩
    · rw [Bool.or_true]
      have hk : Kept (fun b => b = cb) w1 (w1.setCell ⟨cb, 3, none⟩ (.bool true)) := Kept.set1 w1 cb 3 _
      refine { H1.out with blk := ?_, tab := ?_, fo := ?_, hX := ?_, hH := ?_ }
      · have := H1.out.blk.set_ 3 (.bool true)
        simpa using this
      · refine H1.out.tab.kept hk (fun e => ?_) (fun x e e2 => ?_)
        · have := H1.out.hq
          have := H1.out.hcb.1
          omega
        · have := H1.out.hA x e
          have := H1.out.hcb.1
          omega
      · exact H1.out.fo.keep hk fun b _ e => .inr (.inr e)
      · intro b hb
        exact Nat.lt_of_lt_of_le (H1.out.hX b hb) hk.size
      · exact Nat.le_trans H1.out.hH hk.size
    · refine K1.out.trans ((Kept.set1 w1 cb 3 _).mono fun b _ e => ?_)
      subst e
      rintro (g | g)
      · have := H1.out.hcb.1
        omega
      · exact H1.out.hcb.2 g
end
structure Ext (T : List Nd) (S : Int → Prop) (J J' : List Jn) (more more' : Bool) : Prop where
  snd : Snd T S J → Snd T S J'
  keep : ∀ u v, cls J u = cls J v → cls J' u = cls J' v
  same : more' = false → J' = J ∧ more = false
  grow : J.length ≤ J'.length
  strict : more = false → more' = true → J.length < J'.length
theorem Ext.refl (T : List Nd) (S : Int → Prop) (J : List Jn) (more : Bool) : Ext T S J J more more :=
  ⟨id, fun _ _ h => h, fun h => ⟨rfl, h⟩, Nat.le_refl _, fun h1 h2 => by rw [h1] at h2; cases h2⟩
theorem Ext.trans {T : List Nd} {S : Int → Prop} {J J1 J2 : List Jn} {m0 m1 m2 : Bool} (h : Ext T S J J1 m0 m1) (k : Ext T S J1 J2 m1 m2) : Ext T S J J2 m0 m2 := by
  refine ⟨k.snd ∘ h.snd, fun u v e => k.keep u v (h.keep u v e), fun e => ?_, Nat.le_trans h.grow k.grow, fun e1 e2 => ?_⟩
  · obtain ⟨rfl, e1⟩ := k.same e
    exact h.same e1
  · cases m1 with
    | true => exact Nat.lt_of_lt_of_le (h.strict e1 rfl) k.grow
    | false => exact Nat.lt_of_le_of_lt h.grow (k.strict rfl e2)
theorem Ext.join {T : List Nd} {S : Int → Prop} {J : List Jn} {more : Bool} {a b : Int} (hg : Snd T S J → Cg T S a b) : Ext T S J (joinM (T.length + 1) J a b 0) more (more || joinsM (T.length + 1) J a b) := by
  refine ⟨fun h => h.join (hg h), fun u v e => cls_join e, fun e => ?_, ?_, fun e1 e2 => ?_⟩
  · rw [Bool.or_eq_false_iff] at e
    refine ⟨?_, e.1⟩
    have := e.2
    unfold joinsM at this
    unfold joinM
    rw [if_neg (of_decide_eq_false this)]
  · obtain ⟨Y, hY⟩ := join_prefix (T.length + 1) J a b 0
    rw [hY, List.length_append]
    omega
  · rw [e1, Bool.false_or] at e2
    unfold joinsM at e2
    have := of_decide_eq_true e2
    rw [join_len this.2.2 this.1 this.2.1]
    omega
section
variable {w w' : World} {H : Nat} {X : Nat → Prop} {cb q bf : Nat} {A : Option Addr} {c : Nat} {T : List Nd} {J : List Jn} {m : Nat} {more : Bool}
theorem cone_ok (h : Cl w H X cb q bf A c T J m more) (hm : m ≤ 1000000) (a b : Int) :
    Calls Tryz.prog 53 #[.pointer (some ⟨bf, 0, none⟩), .int .i64 a, .int .i64 b] w fun e w' => e = .returned (.bool (oneM (T.length + 1) J a b)) ∧ Cl w' H X cb q bf A c T J (m + 1) more ∧ Kc H (fun b => X b ∨ b = cb) w w' := by
  refine (fo_one h.fo hm a b).mono ?_
  rintro e w' ⟨he, hfo, hk⟩
  refine ⟨he, ⟨h.blk.kept hk (fun hn => hn (.inr (.inr rfl))), h.tab.kept hk (fun hn => hn (.inl h.hq)) (fun x e hn => hn (.inl (h.hA x e))), hfo, h.hq, h.hA, h.hcb, fun b hb => Nat.lt_of_lt_of_le (h.hX b hb) hk.size, Nat.le_trans h.hH hk.size, h.hT⟩, hk⟩
theorem Kc.less {Y : Nat → Prop} (h : Kc H Y w w') (hs : ∀ b, X b → Y b) : Kc H X w w' := h.mono fun b _ hb hn => hb (hn.imp id (hs b))
theorem oneM_iff {n : Int} {x y : Int} (hx : 0 ≤ x ∧ x < n) (hy : 0 ≤ y ∧ y < n) : oneM n J x y = true ↔ cls J x = cls J y := by
  unfold oneM
  rw [decide_eq_true_iff]
  exact ⟨fun h => h.2.2, fun h => ⟨hx, hy, h⟩⟩
def SideIs (T : List Nd) (id : Int) (w : World) (e : Ending) (w' : World) : Prop := ∃ sa sb ok, e = .returned (.tuple #[.int .i64 sa, .int .i64 sb, .bool ok]) ∧ (ok = true ↔ Sided T id) ∧ (ok = true → ∃ n, T[id.toNat]? = some n ∧ sa = n.a0 ∧ sb = n.a1) ∧ Below w.heap.size w w'
set_option maxRecDepth 100000 in
set_option maxHeartbeats 1000000 in
theorem sides_ok (h : Cl w H X cb q bf A c T J m more) (id : Int) :
    Calls Tryz.prog 55 #[.pointer (some ⟨cb, 0, none⟩), .int .i64 id] w (SideIs T id w) := by
  have c0 := h.blk.cell 0
  simp only [List.getElem?_toArray, List.getElem?_cons_zero] at c0
  have hl := h.blk.lt
  have c1 := h.tab.blk.cell 0
  simp only [List.getElem?_toArray, List.getElem?_cons_zero] at c1
  have hq := h.tab.blk.lt
  have HH := Lib.hid h
  have KK := Lib.hid (kind_ok h.tab.tab h.tab.cap id)
  clear h
  obtain ⟨kv, hkv⟩ : ∃ kv, kindM T id = kv := ⟨_, rfl⟩
  have HK := Lib.hid hkv
  have HS : Hid (Sided T id ↔ kv = 4 ∨ kv = 5) := Lib.hid (by unfold Sided; rw [hkv])
  have hin : (kv = 4 ∨ kv = 5) → ∃ i : Nat, id = i ∧ i < T.length := fun hk => by
    refine sort_place (Classical.byContradiction fun hn => ?_)
    rw [kindM_no hn] at hkv
    omega
  clear hkv
  go_enter Tryz.func55, Tryz.ntmps55
  go_wp2_with fail
  refine KK.out.mono ?_
  rintro e w1 ⟨rfl, hb1⟩
  rw [HK.out]
  have HB1 := Lib.hid hb1
  have d0 := (hb1.cell (p := ⟨cb, 0, none⟩) hl).trans c0
  have d1 := (hb1.cell (p := ⟨q, 0, none⟩) hq).trans c1
  have hl1 := Nat.lt_of_lt_of_le hl hb1.size
  have hq1 := Nat.lt_of_lt_of_le hq hb1.size
  clear hb1 c0 c1
  by_cases hk : kv = 4 ∨ kv = 5
  · obtain ⟨i, rfl, hi⟩ := hin hk
    obtain ⟨b, off, hA, hbb, hcell⟩ := (HH.out.tab.tab.below HB1.out).at_.resolve_left (by omega)
    subst hA
    obtain ⟨_, _, y2, y3, _, _, _, _⟩ := (hcell i hi).all
    have HG := Lib.hid (show T[((i : Nat) : Int).toNat]? = some T[i] by rw [Int.toNat_natCast]; exact List.getElem?_eq_getElem hi)
    have t1 : (0 : Int) ≤ (i : Int) := by omega
    have t2 : (i : Int) < (T.length : Int) := by omega
    clear hcell hin
    generalize T[i] = n at *
    have HSD := Lib.hid (HS.out.2 hk)
    rcases hk with rfl | rfl
    · go_wp2
      go_quiet (fail)
      go_wp2
      go_ret3
      exact ⟨_, _, _, rfl, ⟨fun _ => HSD.out, fun _ => rfl⟩, fun _ => ⟨n, HG.out, rfl, rfl⟩, below_drewN HB1.out _⟩
    · go_wp2
      go_quiet (fail)
      go_wp2
      go_ret3
      exact ⟨_, _, _, rfl, ⟨fun _ => HSD.out, fun _ => rfl⟩, fun _ => ⟨n, HG.out, rfl, rfl⟩, below_drewN HB1.out _⟩
  · have b0 : (kv == 4) = false := by simp; omega
    have b1 : (kv == 5) = false := by simp; omega
    have HN := Lib.hid hk
    clear hk hin
    go_wp2
    go_ret3
    exact ⟨_, _, _, rfl, ⟨fun e => by simp at e, fun h => absurd (HS.out.1 h) HN.out⟩, fun e => by simp at e, HB1.out⟩
theorem is_ok23 (x : Int) (h0 : 0 ≤ x) (h1 : x < 9223372036854775808) (w : World) : Calls Tryz.prog 57 #[.int .i64 x] w fun e w' => e = .returned (.bool (x % 2 != 0)) ∧ w = w' := by
  have ha := i64_and_one x h0 h1
  obtain ⟨y, hy⟩ : ∃ y, x % 2 = y := ⟨_, rfl⟩
  rw [hy] at ha ⊢
  clear hy
  go_enter Tryz.func57, Tryz.ntmps57
  go_wp2
  go_ret
  exact ⟨rfl, rfl⟩
theorem side_args {T : List Nd} (hT : TabOk T) {id : Int} {n : Nd} (hs : Sided T id) (hn : T[id.toNat]? = some n) : (0 ≤ n.a0 ∧ n.a0 < (T.length : Int) + 1) ∧ (0 ≤ n.a1 ∧ n.a1 < (T.length : Int) + 1) := by
  have hlt := (List.getElem?_eq_some_iff.1 hn).1
  have hst := hT.st _ _ hn
  have h6 : n.op = 6 := by
    unfold Sided kindM at hs
    split at hs
    · omega
    · rw [hn] at hs
      simp only at hs
      split at hs
      · assumption
      · unfold kindOp at hs
        repeat' split at hs
        all_goals omega
  have hl : n.len = 2 := by
    obtain ⟨lo, hi, e, h1, h2⟩ := hst.ar
    rw [h6] at e
    simp [arityM] at e
    omega
  have a0 := (hst.args 0 (by omega)).1 (by rw [hl]; decide)
  have a1 := (hst.args 1 (by omega)).1 (by rw [hl]; decide)
  simp [Nd.arg] at a0 a1
  omega
def CStep (H : Nat) (X : Nat → Prop) (cb q bf : Nat) (A : Option Addr) (c : Nat) (T : List Nd) (S : Int → Prop) (J : List Jn) (m : Nat) (more : Bool) (R : List Jn → Bool → Prop) (w : World) (e : Ending) (w' : World) : Prop :=
  e = .returned (.tuple #[]) ∧ ∃ J' m' more', Cl w' H X cb q bf A c T J' m' more' ∧ m' ≤ m + 10 ∧ Ext T S J J' more more' ∧ R J' more' ∧ Kc H X w w'
def ToldR (T : List Nd) (x : Int) (J' : List Jn) (_ : Bool) : Prop :=
  (x % 2 = 1 → cls J' (x / 2) = cls J' T.length) ∧ (x % 2 = 0 → cls J' (x / 2) = cls J' 0) ∧ (x % 2 = 0 → Sided T (x / 2) → ∀ n, T[(x / 2).toNat]? = some n → cls J' n.a0 = cls J' n.a1)
theorem ToldR.even {x : Int} {J' : List Jn} {b : Bool} (hy : x % 2 = 0) (h1 : cls J' (x / 2) = cls J' 0) (h2 : Sided T (x / 2) → ∀ n, T[(x / 2).toNat]? = some n → cls J' n.a0 = cls J' n.a1) : ToldR T x J' b := ⟨fun e => (by rw [hy] at e; cases e), fun _ => h1, fun _ => h2⟩
theorem ToldR.odd {x : Int} {J' : List Jn} {b : Bool} (hy : x % 2 = 1) (h1 : cls J' (x / 2) = cls J' T.length) : ToldR T x J' b := ⟨fun _ => h1, fun e => (by rw [hy] at e; cases e), fun e => (by rw [hy] at e; cases e)⟩
set_option maxRecDepth 100000 in
set_option maxHeartbeats 1000000 in
theorem told_ok {S : Int → Prop} (h : Cl w H X cb q bf A c T J m more) (hT : TabOk T) (hm : m ≤ 900000) {x : Int} (hx : LitMay T x) (hS : S x) :
    Calls Tryz.prog 49 #[.pointer (some ⟨cb, 0, none⟩), .int .i64 x] w (CStep H X cb q bf A c T S J m more (ToldR T x) w) := by
  obtain ⟨n, hn, hs, hop, hxl, hx0⟩ := hx.node
  have hlen := h.hT
  have hx9 : 0 ≤ x := hx.1
  have hl2 := hT.len
  have c2 := h.blk.cell 2
  simp only [List.getElem?_toArray, List.getElem?_cons_zero, List.getElem?_cons_succ] at c2
  have hl := h.blk.lt
  have HH := Lib.hid h
  have HS := Lib.hid hS
  have KI := Lib.hid (fun W => is_ok23 x hx9 (by omega) W)
  obtain ⟨y, hy⟩ : ∃ y, x % 2 = y := ⟨_, rfl⟩
  have HY := Lib.hid hy
  have KN := Lib.hid (fun W => node_ok x W)
  have hr1 : 0 ≤ x / 2 ∧ x / 2 < (T.length : Int) + 1 := by omega
  have hr0 : (0 : Int) ≤ 0 ∧ (0 : Int) < (T.length : Int) + 1 := by omega
  have hrN : 0 ≤ (T.length : Int) ∧ (T.length : Int) < (T.length : Int) + 1 := by omega
  have HR1 := Lib.hid hr1
  have HR0 := Lib.hid hr0
  have HRN := Lib.hid hrN
  rw [hy] at KI
  have hy2 : y = 0 ∨ y = 1 := by omega
  have HN := Lib.hid hn
  have HT := Lib.hid hT
  obtain ⟨id, hid⟩ : ∃ id, x / 2 = id := ⟨_, rfl⟩
  have HID := Lib.hid hid
  rw [hid] at KN HR1
  clear h hx hS hn hs hop hxl hx0 hy hT hr1 hr0 hrN hid hl2
  rcases hy2 with rfl | rfl
  · go_enter Tryz.func49, Tryz.ntmps49
    go_wp2_with fail
    refine (KN.out _).mono ?_
    rintro e w1 ⟨rfl, rfl⟩
    go_wp2_with fail
    refine (KI.out _).mono ?_
    rintro e w1 ⟨rfl, rfl⟩
    go_wp2_with fail
    refine (cjoin_ok HH.out (by omega) id 0).mono ?_
    rintro e w1 ⟨rfl, h1, k1⟩
    have H1 := Lib.hid h1
    have K1 := Lib.hid k1
    have E1 := Lib.hid (Ext.join (T := T) (S := S) (J := J) (more := more) (a := id) (b := 0) fun _ => HID.out ▸ .pos HS.out HY.out)
    have J1 := Lib.hid (cls_joined (J := J) (r := 0) HR1.out HR0.out)
    generalize joinM (T.length + 1) J id 0 0 = Ja at *
    generalize (more || joinsM (T.length + 1) J id 0) = ma at *
    clear h1 k1
    go_wp2_with fail
    refine (sides_ok H1.out id).mono ?_
    rintro e w2 ⟨sa, sb, ok, rfl, hok, hsd, hb2⟩
    have H2 := Lib.hid (H1.out.below hb2)
    have K2 := Lib.hid (K1.out.trans (Kc.of_below hb2))
    have HOK := Lib.hid hok
    have HSD := Lib.hid hsd
    clear hb2 hok hsd
    cases ok with
    | false =>
      have HTR : Hid (ToldR T x Ja ma) := Lib.hid (ToldR.even HY.out (HID.out ▸ J1.out) fun hs => by have := HOK.out.2 (HID.out ▸ hs); cases this)
      go_wp2
      refine bodyPost_end (results_none rfl _ _ _) rfl ?_
      exact ⟨rfl, Ja, m + 3, ma, H2.out, by omega, E1.out, HTR.out, K2.out⟩
    | true =>
      obtain ⟨n', hn', hsa, hsb⟩ := HSD.out rfl
      have hnn : n' = n := by
        have := HN.out
        rw [HID.out, hn'] at this
        injection this
      subst hnn
      subst hsa hsb
      have HNN := Lib.hid hn'
      clear hn'
      go_wp2_with fail
      refine (cjoin_ok H2.out (by omega) n'.a0 n'.a1).mono ?_
      rintro e w3 ⟨rfl, h3, k3⟩
      have H3 := Lib.hid h3
      have K3 := Lib.hid (K2.out.trans k3)
      have E3 := Lib.hid (E1.out.trans (Ext.join (T := T) (S := S) (J := Ja) (more := ma) (a := n'.a0) (b := n'.a1) fun _ => .side HS.out HY.out (by rw [HID.out]; have := HOK.out; simpa using this) HN.out))
      clear h3 k3
      have hst := HT.out.st (x / 2).toNat n' HN.out
      have HTR : Hid (ToldR T x (joinM (T.length + 1) Ja n'.a0 n'.a1 0) (ma || joinsM (T.length + 1) Ja n'.a0 n'.a1)) := Lib.hid (ToldR.even HY.out (HID.out ▸ cls_join J1.out) fun hs m hm => by
        have e := HN.out
        rw [e] at hm
        injection hm with hm
        subst hm
        have hr := side_args HT.out hs e
        exact cls_joined hr.1 hr.2)
      go_wp2
      refine bodyPost_end (results_none rfl _ _ _) rfl ?_
      exact ⟨rfl, _, _, _, H3.out, by omega, E3.out, HTR.out, K3.out⟩
  · go_enter Tryz.func49, Tryz.ntmps49
    go_wp2_with fail
    refine (KN.out _).mono ?_
    rintro e w1 ⟨rfl, rfl⟩
    go_wp2_with fail
    refine (KI.out _).mono ?_
    rintro e w1 ⟨rfl, rfl⟩
    go_wp2_with fail
    refine (cjoin_ok HH.out (by omega) id T.length).mono ?_
    rintro e w1 ⟨rfl, h1, k1⟩
    have H1 := Lib.hid h1
    have K1 := Lib.hid k1
    have E1 := Lib.hid (Ext.join (T := T) (S := S) (J := J) (more := more) (a := id) (b := T.length) fun _ => HID.out ▸ .neg HS.out HY.out)
    have J1 := Lib.hid (cls_joined (J := J) (r := 0) HR1.out HRN.out)
    have HTR : Hid (ToldR T x (joinM (T.length + 1) J id T.length 0) (more || joinsM (T.length + 1) J id T.length)) := Lib.hid (ToldR.odd HY.out (HID.out ▸ J1.out))
    clear h1 k1
    go_wp2
    refine bodyPost_ret (results_none rfl _ _ _) rfl ?_
    exact ⟨rfl, _, _, _, H1.out, by omega, E1.out, HTR.out, K1.out⟩
end
section
variable {w w' : World} {H : Nat} {X : Nat → Prop} {cb q bf : Nat} {A : Option Addr} {c : Nat} {T : List Nd} {J : List Jn} {m : Nat} {more : Bool}
def TurnR (T : List Nd) (a b : Int) (J' : List Jn) (more' : Bool) : Prop := more' = false → (cls J' a = cls J' 0 → cls J' b = cls J' T.length) ∧ (cls J' a = cls J' T.length → cls J' b = cls J' 0)
theorem Cl.cells (h : Cl w H X cb q bf A c T J m more) : w.cell? ⟨cb, 0, none⟩ = some (.pointer (some ⟨q, 0, none⟩)) ∧ w.cell? ⟨cb, 1, none⟩ = some (.pointer (some ⟨bf, 0, none⟩)) ∧ w.cell? ⟨cb, 2, none⟩ = some (.int .i64 T.length) ∧ w.cell? ⟨cb, 3, none⟩ = some (.bool more) ∧ cb < w.heap.size := by
  have c0 := h.blk.cell 0
  have c1 := h.blk.cell 1
  have c2 := h.blk.cell 2
  have c3 := h.blk.cell 3
  simp only [List.getElem?_toArray, List.getElem?_cons_zero, List.getElem?_cons_succ] at c0 c1 c2 c3
  exact ⟨c0, c1, c2, c3, h.blk.lt⟩
theorem ext_join_cls {a b : Int} (ha : 0 ≤ a ∧ a < (T.length : Int) + 1) (hb : 0 ≤ b ∧ b < (T.length : Int) + 1) (hmo : (more || joinsM (T.length + 1) J a b) = false) : cls J a = cls J b := by
  rw [Bool.or_eq_false_iff] at hmo
  have := of_decide_eq_false hmo.2
  exact Classical.byContradiction fun hn => this ⟨ha, hb, hn⟩
set_option maxRecDepth 100000 in
set_option maxHeartbeats 2000000 in
theorem turn_ok {S : Int → Prop} (h : Cl w H X cb q bf A c T J m more) (hm : m ≤ 900000) (a b : Int) (ha : 0 ≤ a ∧ a < (T.length : Int) + 1) (hb : 0 ≤ b ∧ b < (T.length : Int) + 1)
    (hg1 : Cg T S a 0 → Cg T S b T.length) (hg2 : Cg T S a T.length → Cg T S b 0) :
    Calls Tryz.prog 72 #[.pointer (some ⟨cb, 0, none⟩), .int .i64 a, .int .i64 b] w (CStep H X cb q bf A c T S J m more (TurnR T a b) w) := by
  have hlen := h.hT
  obtain ⟨_, c1, c2, _, hl⟩ := h.cells
  have HH := Lib.hid h
  have HA := Lib.hid ha
  have HB := Lib.hid hb
  have G1 := Lib.hid hg1
  have G2 := Lib.hid hg2
  have HR0 := Lib.hid (show (0 : Int) ≤ 0 ∧ (0 : Int) < (T.length : Int) + 1 by omega)
  have HRN := Lib.hid (show 0 ≤ (T.length : Int) ∧ (T.length : Int) < (T.length : Int) + 1 by omega)
  clear h ha hb hg1 hg2
  go_enter Tryz.func72, Tryz.ntmps72
  go_wp2_with fail
  refine (cone_ok HH.out (by omega) a 0).mono ?_
  rintro e w1 ⟨rfl, h1, k1⟩
  have O1 := Lib.hid (oneM_iff (J := J) HA.out HR0.out)
  have H1 := Lib.hid h1
  have K1 := Lib.hid (k1.less fun _ h => Or.inl h)
  obtain ⟨o1, ho1⟩ : ∃ o1, oneM (T.length + 1) J a 0 = o1 := ⟨_, rfl⟩
  rw [ho1] at O1 ⊢
  clear h1 k1 ho1 c1 c2
  cases o1 with
  | false =>
    have Z1 : Hid (more = false → cls J a = cls J 0 → cls J b = cls J T.length) := Lib.hid fun _ e => (by have := O1.out.2 e; cases this)
    have E1 := Lib.hid (Ext.refl T S J more)
    obtain ⟨_, c1, c2, _, hl1⟩ := H1.out.cells
    have KO := Lib.hid (cone_ok (H1.out.below (w' := w1.drew) ⟨rfl, rfl, rfl, Nat.le_refl _, fun _ _ => rfl⟩) (by omega) a T.length)
    go_upto_region 2 with (fail)
    go_region_held3 (fun w' => w'.cell? ⟨cb, 1, none⟩ = some (.pointer (some ⟨bf, 0, none⟩)) ∧ w'.cell? ⟨cb, 2, none⟩ = some (.int .i64 T.length)) (go_keep) ((go_at_call 53; refine KO.out.mono ?_; rintro e w2 ⟨rfl, h2, k2⟩; have H2 := Lib.hid h2; have K2 := Lib.hid (Kc.trans (H := H) (X := X) (w := w) (w' := w1.drew) (Kept.drew K1.out) (k2.less fun _ h => Or.inl h)); obtain ⟨_, e1, e2, _, hl2⟩ := h2.cells; clear h2 k2))
    have O2 := Lib.hid (oneM_iff (J := J) HA.out HRN.out)
    obtain ⟨o2, ho2⟩ : ∃ o2, oneM (T.length + 1) J a T.length = o2 := ⟨_, rfl⟩
    rw [ho2] at O2 ⊢
    clear ho2
    cases o2 with
    | false =>
      have HTR : Hid (TurnR T a b J more) := Lib.hid fun hmo => ⟨Z1.out hmo, fun e => (by have := O2.out.2 e; cases this)⟩
      go_wp2
      refine bodyPost_end (results_none rfl _ _ _) rfl ?_
      exact ⟨rfl, J, _, more, H2.out, by omega, E1.out, HTR.out, K2.out⟩
    | true =>
      have HC := Lib.hid (O2.out.1 rfl)
      clear c1 c2 e1 e2
      obtain ⟨_, f1, f2, _, hl3⟩ := H2.out.cells
      go_wp2_with fail
      refine (cjoin_ok H2.out (by omega) b 0).mono ?_
      rintro e w3 ⟨rfl, h3, k3⟩
      have H3 := Lib.hid h3
      have K3 := Lib.hid (K2.out.trans k3)
      have E3 := Lib.hid (E1.out.trans (Ext.join (T := T) (S := S) (J := J) (more := more) (a := b) (b := 0) fun hs => G2.out (hs.cls HC.out)))
      have HTR : Hid (TurnR T a b (joinM (T.length + 1) J b 0 0) (more || joinsM (T.length + 1) J b 0)) := Lib.hid fun hmo => by
        have e3 := (Ext.join (T := T) (S := S) (J := J) (more := more) (a := b) (b := 0) fun hs => G2.out (hs.cls HC.out)).same hmo
        refine ⟨?_, fun _ => cls_joined HB.out HR0.out⟩
        rw [e3.1]
        exact Z1.out e3.2
      clear h3 k3
      go_wp2
      refine bodyPost_end (results_none rfl _ _ _) rfl ?_
      exact ⟨rfl, _, _, _, H3.out, by omega, E3.out, HTR.out, K3.out⟩
  | true =>
    have HC1 := Lib.hid (O1.out.1 rfl)
    obtain ⟨_, c1, c2, _, hl1⟩ := H1.out.cells
    go_wp2_with fail
    refine (cjoin_ok H1.out (by omega) b T.length).mono ?_
    rintro e wj ⟨rfl, h3, k3⟩
    clear c1 c2 hl1
    have K1' := Lib.hid (K1.out.trans k3)
    have E1 := Lib.hid (Ext.join (T := T) (S := S) (J := J) (more := more) (a := b) (b := T.length) fun hs => G1.out (hs.cls HC1.out))
    have Z1 : Hid ((more || joinsM (T.length + 1) J b T.length) = false → cls (joinM (T.length + 1) J b T.length 0) a = cls (joinM (T.length + 1) J b T.length 0) 0 → cls (joinM (T.length + 1) J b T.length 0) b = cls (joinM (T.length + 1) J b T.length 0) T.length) := Lib.hid fun _ _ => cls_joined HB.out HRN.out
    have H1' := Lib.hid h3
    clear h3 k3 H1 K1
    have H1 := H1'
    have K1 := K1'
    clear H1' K1'
    obtain ⟨w1, rfl⟩ : ∃ w1 : World, w1 = wj := ⟨_, rfl⟩
    generalize joinM (T.length + 1) J b T.length 0 = Ja at *
    generalize (more || joinsM (T.length + 1) J b T.length) = ma at *
    obtain ⟨_, c1, c2, _, hl1⟩ := H1.out.cells
    have KO := Lib.hid (cone_ok (H1.out.below (w' := w1.drew) ⟨rfl, rfl, rfl, Nat.le_refl _, fun _ _ => rfl⟩) (by omega) a T.length)
    go_upto_region 2 with (fail)
    go_region_held3 (fun w' => w'.cell? ⟨cb, 1, none⟩ = some (.pointer (some ⟨bf, 0, none⟩)) ∧ w'.cell? ⟨cb, 2, none⟩ = some (.int .i64 T.length)) (go_keep) ((go_at_call 53; refine KO.out.mono ?_; rintro e w2 ⟨rfl, h2, k2⟩; have H2 := Lib.hid h2; have K2 := Lib.hid (Kc.trans (H := H) (X := X) (w := w) (w' := w1.drew) (Kept.drew K1.out) (k2.less fun _ h => Or.inl h)); obtain ⟨_, e1, e2, _, hl2⟩ := h2.cells; clear h2 k2))
    have O2 := Lib.hid (oneM_iff (J := Ja) HA.out HRN.out)
    obtain ⟨o2, ho2⟩ : ∃ o2, oneM (T.length + 1) Ja a T.length = o2 := ⟨_, rfl⟩
    rw [ho2] at O2 ⊢
    clear ho2
    cases o2 with
    | false =>
      have HTR : Hid (TurnR T a b Ja ma) := Lib.hid fun hmo => ⟨Z1.out hmo, fun e => (by have := O2.out.2 e; cases this)⟩
      go_wp2
      refine bodyPost_end (results_none rfl _ _ _) rfl ?_
      exact ⟨rfl, Ja, _, ma, H2.out, by omega, E1.out, HTR.out, K2.out⟩
    | true =>
      have HC := Lib.hid (O2.out.1 rfl)
      clear c1 c2 e1 e2
      obtain ⟨_, f1, f2, _, hl3⟩ := H2.out.cells
      go_wp2_with fail
      refine (cjoin_ok H2.out (by omega) b 0).mono ?_
      rintro e w3 ⟨rfl, h3, k3⟩
      have H3 := Lib.hid h3
      have K3 := Lib.hid (K2.out.trans k3)
      have E3 := Lib.hid (E1.out.trans (Ext.join (T := T) (S := S) (J := Ja) (more := ma) (a := b) (b := 0) fun hs => G2.out (hs.cls HC.out)))
      have HTR : Hid (TurnR T a b (joinM (T.length + 1) Ja b 0 0) (ma || joinsM (T.length + 1) Ja b 0)) := Lib.hid fun hmo => by
        have e3 := (Ext.join (T := T) (S := S) (J := Ja) (more := ma) (a := b) (b := 0) fun hs => G2.out (hs.cls HC.out)).same hmo
        refine ⟨?_, fun _ => cls_joined HB.out HR0.out⟩
        rw [e3.1]
        exact Z1.out e3.2
      clear h3 k3
      go_wp2
      refine bodyPost_end (results_none rfl _ _ _) rfl ?_
      exact ⟨rfl, _, _, _, H3.out, by omega, E3.out, HTR.out, K3.out⟩
end
end Go.Proofs.YtkapbdjobfbhhaaGreat

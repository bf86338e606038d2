/- The reference's side (L17/UnM L16/UnN L17/UnR L17/UnT), for layer 21's seat. -/
import Derived.SizedLaws
import Derived.Test.YtmbekchnfbmhbaaGreatRfD
namespace Go.Proofs.YtmbekchnfbmhbaaGreat
section
open Go.RowKit Go.Lib
/-- No literal holds with its negation. -/
theorem val_not_both {vals : List Int} {x : Int} (h0 : 0 ≤ x) (h : valM vals x = 1) : valM vals (negM x) ≠ 1 := by
  have hn : 0 ≤ negM x := by unfold negM; split <;> omega
  unfold valM at h ⊢
  rw [if_neg (by omega)] at h
  rw [if_neg (by omega), negM_half]
  have hx : negM x % 2 = if x % 2 = 0 then 1 else 0 := by unfold negM; split <;> omega
  cases hv : vals[(x / 2).toNat]? with
  | none => rw [hv] at h; cases h
  | some v =>
    rw [hv] at h
    simp only at h ⊢
    by_cases h1 : v = 1
    · rw [if_pos h1] at h ⊢
      by_cases hp : x % 2 = 0 <;> simp [hp, hx] at h ⊢
    · rw [if_neg h1] at h ⊢
      by_cases h2 : v = 2
      · rw [if_pos h2] at h ⊢
        by_cases hp : x % 2 = 0 <;> simp [hp, hx] at h ⊢
      · rw [if_neg h2] at h; cases h
theorem val_small {vals : List Int} {x : Int} (hl : vals.length ≤ 3000) (h : valM vals x = 1) : 0 ≤ x ∧ x ≤ 1048576 := by
  unfold valM at h
  by_cases h0 : x < 0
  · rw [if_pos h0] at h; cases h
  · rw [if_neg h0] at h
    refine ⟨by omega, ?_⟩
    rcases Nat.lt_or_ge (x / 2).toNat vals.length with h1 | h1
    · omega
    · rw [List.getElem?_eq_none h1] at h; cases h
theorem val_neg (vals : List Int) {x : Int} (h : x < 0) : valM vals x = 0 := by unfold valM; rw [if_pos h]
theorem st_true (vals : List Int) : ∀ (c : List Int) (o : Nat) (l : Int), (stM vals c o l).1 = 0 ↔ ∃ x ∈ c, valM vals x = 1
  | [], o, l => by
    unfold stM
    constructor
    · intro h
      split at h
      · cases h
      · split at h <;> cases h
    · rintro ⟨x, hx, _⟩
      cases hx
  | x :: r, o, l => by
    unfold stM
    by_cases h1 : valM vals x = 1
    · rw [if_pos h1]
      exact ⟨fun _ => ⟨x, List.mem_cons_self, h1⟩, fun _ => rfl⟩
    · rw [if_neg h1]
      have key : (∃ y ∈ x :: r, valM vals y = 1) ↔ ∃ y ∈ r, valM vals y = 1 := by
        constructor
        · rintro ⟨y, hy, hv⟩
          rcases List.mem_cons.1 hy with rfl | hy
          · exact absurd hv h1
          · exact ⟨y, hy, hv⟩
        · rintro ⟨y, hy, hv⟩
          exact ⟨y, List.mem_cons_of_mem _ hy, hv⟩
      rw [key]
      split
      · exact st_true vals r _ _
      · exact st_true vals r _ _
theorem mem_plain {c : List Int} {x : Int} (hx : x ∈ c) (hr : 0 ≤ x ∧ x ≤ 1048576) : x ∈ plainM c := by
  unfold plainM
  exact List.mem_filter.2 ⟨(mem_make _ _).2 ⟨hx, hr.1⟩, by rw [(wide_iff x).2 hr]; rfl⟩
theorem run_sound {cs : List (List Int)} {given vals : List Int} (hl : vals.length ≤ 3000) (hg : ∀ x ∈ given, 0 ≤ x → valM vals x = 1) (hc : holdsM vals cs = true) : (∀ x ∈ (runM cs given).1, valM vals x = 1) ∧ (runM cs given).2 = -1 := by
  have hcs : ∀ c ∈ cs, ∃ x ∈ c, valM vals x = 1 := fun c hc' => by
    have := List.all_eq_true.1 hc c hc'
    exact (st_true vals c 0 (-1)).1 (by simpa using this)
  have hgm : ∀ x ∈ (givenM given []).1, valM vals x = 1 := given_ind (P := fun l => ∀ x ∈ l, valM vals x = 1) given [] (fun x hx => by cases hx) fun lits x hp hx hw _ y hy => by
    rcases List.mem_append.1 hy with hy | hy
    · exact hp y hy
    · rw [List.mem_singleton.1 hy]; exact hg x hx ((wide_iff x).1 hw).1
  have fals : ∀ {lits : List Int}, (∀ x ∈ lits, valM vals x = 1) → ∀ y, 0 ≤ y → valL lits y ≠ 1 → valL lits y ≠ 0 → valM vals y ≠ 1 := by
    intro lits hp y h0 h1 h2 hv
    rcases valL_cases lits y with e | e | e
    · exact h2 e
    · exact h1 e
    · exact val_not_both h0 hv (hp _ (valL_two.1 e).2)
  unfold runM
  by_cases hgb : (givenM given []).2 = true
  · rw [if_pos hgb]
    refine runL_ind (cs := cs.map plainM) (P := fun l => ∀ x ∈ l, valM vals x = 1) (Q := fun r => (∀ x ∈ r.1, valM vals x = 1) ∧ r.2 = -1) (fun lits x c hp hcm hx hv ho _ => ?_) (fun lits k c hp h0 hcm hf => ?_) (fun lits hp _ _ => ⟨hp, rfl⟩) _ _ (Nat.le_refl _) hgm
    · intro y hy
      rcases List.mem_append.1 hy with hy | hy
      · exact hp y hy
      · rw [List.mem_singleton.1 hy]
        obtain ⟨d, hd, rfl⟩ := List.mem_map.1 hcm
        obtain ⟨z, hz, hzv⟩ := hcs d hd
        have hzr := val_small hl hzv
        rcases ho z (mem_plain hz hzr) with e | ⟨e1, e2⟩
        · rw [← e]; exact hzv
        · exact absurd hzv (fals hp z hzr.1 e1 e2)
    · exfalso
      obtain ⟨d, hd, rfl⟩ := List.mem_map.1 hcm
      obtain ⟨z, hz, hzv⟩ := hcs d hd
      have hzr := val_small hl hzv
      have := hf z (mem_plain hz hzr)
      exact fals hp z hzr.1 this.1 this.2 hzv
  · exfalso
    obtain ⟨x, hx, hw, hv⟩ := given_no given [] (by simpa using hgb)
    have h0 := ((wide_iff x).1 hw).1
    exact val_not_both h0 (hg x hx h0) (hgm _ (valL_two.1 hv).2)
end
section
open Go.RowKit Go.Lib
theorem fits_ok (x : Int) (w : World) : Calls Tryz.prog 85 #[.int .i64 x] w fun e w' => e = .returned (.bool (!wideM x)) ∧ w = w' := by
  unfold wideM
  by_cases h0 : x < 0
  · have d0 : decide ((0 : Int) ≤ x) = false := decide_eq_false (by omega)
    rw [decide_eq_true h0, Bool.true_or]
    clear h0
    go_enter Tryz.func85, Tryz.ntmps85
    go_wp2
    go_ret
    exact ⟨rfl, rfl⟩
  · have d0 : decide ((0 : Int) ≤ x) = true := decide_eq_true (by omega)
    rw [decide_eq_false h0, Bool.false_or]
    by_cases h1 : 1048576 < x
    · have d1 : decide (x ≤ (1048576 : Int)) = false := decide_eq_false (by omega)
      rw [decide_eq_true h1]
      clear h0 h1
      go_enter Tryz.func85, Tryz.ntmps85
      go_wp2
      go_ret
      exact ⟨rfl, rfl⟩
    · have d1 : decide (x ≤ (1048576 : Int)) = true := decide_eq_true (by omega)
      rw [decide_eq_false h1]
      clear h0 h1
      go_enter Tryz.func85, Tryz.ntmps85
      go_wp2
      go_ret
      exact ⟨rfl, rfl⟩

/-- Rows of ints of the call's own are as they were. -/
def KeepI (w w' : World) : Prop := ∀ base v n xs, w.ownsRow base 3 1 v n xs → w'.ownsRow base 3 1 v n xs
theorem KeepI.refl (w : World) : KeepI w w := fun _ _ _ _ h => h
theorem KeepI.trans {a b c : World} (h : KeepI a b) (k : KeepI b c) : KeepI a c := fun _ _ _ _ o => k _ _ _ _ (h _ _ _ _ o)
theorem KeepI.alloc (w : World) (o : Obj) : KeepI w (w.alloc o) := fun _ _ _ _ h => h.alloc o
theorem KeepI.grown {w w' : World} {base n : Nat} {va : Value} {xs : List Value} (ho : w.ownsRow base 26 1 va n xs) (hg : w.grownBy w' va.ownBlock) : KeepI w w' := fun _ v _ _ h => own_grown h hg fun g hg' e => own_own_ne h ho (by decide) hg' e.symm
theorem KeepI.set {w : World} {base n g i : Nat} {va : Value} {xs : List Value} (ho : w.ownsRow base 26 1 va n xs) (hb : va.ownBlock = some g) (u : Value) : KeepI w (w.setCell ⟨g, i, none⟩ u) := fun _ v _ _ h => own_setFar h (fun e => own_own_ne h ho (by decide) e hb) u
/-- An assignment of the reference's, as it lies in memory. -/
def AV (w : World) (B : Nat) (va : Value) (A : List Int) : Prop := w.ownsRow B 26 1 va A.length (A.map (Value.int .i8))
theorem AV.row {w : World} {B : Nat} {va : Value} {A : List Int} (h : AV w B va A) (hl : A.length ≤ 1000000) : ∃ AA cap, va = .slice AA A.length cap ∧ Row .i8 w AA A := by
  rcases h.2 with ⟨rfl, h0⟩ | ⟨ga, cap, cur, rfl, hb, hh, hc, hM, hs, ht⟩
  · exact ⟨none, 0, by rw [h0], hl, .inl h0⟩
  · refine ⟨_, cap, rfl, hl, .inr ⟨ga, 0, rfl, (Array.getElem?_eq_some_iff.1 hh).1, fun i hi => ?_⟩⟩
    have h' : w.ownsRow B 26 1 (.slice (some ⟨ga, 0, none⟩) A.length cap) A.length (A.map (Value.int .i8)) := h
    rw [Nat.zero_add, h'.cellAt i (by omega), List.getElem?_map, List.getElem?_eq_getElem hi]
    rfl
structure WidePost (w w' : World) (B : Nat) (va' : Value) (A' lits : List Int) (m : Nat) : Prop where
  av : AV w' B va' A'
  rep : Rep A' lits
  len : A'.length = m
  bel : Below B w w'
  keep : KeepI w w'
def SomeWide (w : World) (B : Nat) (lits : List Int) (m : Nat) (e : Ending) (w' : World) : Prop := ∃ va' A', e = .returned va' ∧ WidePost w w' B va' A' lits m
theorem own_base_le {w : World} {B n : Nat} {va : Value} {xs : List Value} {e : TypeId} (h : w.ownsRow B e 1 va n xs) : ∀ k, va.ownBlock = some k → B ≤ k := fun k hk => (h.lt k hk).1

set_option maxHeartbeats 1000000 in
theorem wide16_ok {w : World} {B : Nat} {va : Value} {A lits : List Int} {q : Nat} (h : AV w B va A) (hr : Rep A lits) (hq : q ≤ 600000) (hA : A.length ≤ 600001) (hB : B ≤ w.heap.size) :
    Calls Tryz.prog 98 #[va, .int .i64 q] w (SomeWide w B lits (Nat.max A.length (q + 1))) := by
  obtain ⟨i0, hi, hz0, hz1, hz2⟩ := info_parts int8_info
  have H := Lib.hid h
  have Hr := Lib.hid hr
  clear h hr
  go_enter Tryz.func98, Tryz.ntmps98
  go_wp2
  go_loopg [0] (q + 1) (fun g v wr => ∃ A' : List Int, WidePost w wr B v A' lits A'.length ∧ q + 1 ≤ g + A'.length ∧ A.length ≤ A'.length ∧ (A'.length = A.length ∨ A'.length ≤ q + 1))
  case atStart => exact ⟨A, ⟨H.out, Hr.out, rfl, Below.refl _ _, KeepI.refl _⟩, by omega, Nat.le_refl _, .inl rfl⟩
  case round =>
    obtain ⟨A', hP, hlen, hge, hmx⟩ := hrel
    obtain ⟨ad, cap, rfl⟩ := own_slice hP.av
    have HP := Lib.hid hP
    clear hP
    by_cases hc : A'.length ≤ q
    · cases gk with
      | zero => omega
      | succ n =>
        have d1 : decide ((A'.length : Int) ≤ (q : Int)) = true := by simp; omega
        have X1 := Lib.hid (show (A'.length + 1) * 1 ≤ 140737488355328 by omega)
        have Xb := Lib.hid (show B ≤ wr.heap.size from Nat.le_trans hB HP.out.bel.size)
        have Hc := Lib.hid hc
        go_wp2_with (at_builtin; refine list_push _ rfl (.tmp 9) (.tmp 10) 27 rfl B 26 i0 (.int .i8 0) 1 1 Tryz.underlying27 hi hz0 hz1 hz2 rfl (by decide) _ A'.length (A'.map (Value.int .i8)) rfl (World.ownsRow.alloc HP.out.av _) wr.heap.size #[.int .i8 0] rfl (Blk.new wr _ _) rfl (by intro u hu; rw [List.mem_singleton.1 hu]; rfl) X1.out (by decide) Xb.out ?_; intro ga ca w3 ho3 hg3 _ _; have HO3 := Lib.hid ho3; have HB3 := Lib.hid (Below.grown (HP.out.bel.alloc Xb.out _) hg3 (Nat.le_trans Xb.out (by simp)) (own_base_le HP.out.av)); have HK3 := Lib.hid ((HP.out.keep.trans (KeepI.alloc _ _)).trans (KeepI.grown (World.ownsRow.alloc HP.out.av _) hg3)); clear ho3 hg3)
        go_roundg n
        case measure => omega
        case rel => exact ⟨A' ++ [0], ⟨by unfold AV; rw [List.length_append, List.map_append]; exact HO3.out, rep_grow HP.out.rep 1, rfl, HB3.out, HK3.out⟩, by rw [List.length_append]; simp; omega, by rw [List.length_append]; simp; omega, .inr (by rw [List.length_append]; have := Hc.out; simp; omega)⟩
    · have d1 : decide ((A'.length : Int) ≤ (q : Int)) = false := by simp; omega
      have Hm := Lib.hid (show A'.length = Nat.max A.length (q + 1) by show A'.length = max A.length (q + 1); omega)
      clear hlen hge hmx
      go_wp2
      go_ret
      exact ⟨_, A', rfl, HP.out.av, HP.out.rep, Hm.out, HP.out.bel, HP.out.keep⟩

set_option maxHeartbeats 1000000 in
theorem put16_ok {w : World} {B : Nat} {va : Value} {A lits : List Int} {lit : Int} {q : Nat} (h : AV w B va A) (hr : Rep A lits) (hq : lit / 2 = q) (h0 : 0 ≤ lit) (hl : lit ≤ 1048576) (hv : valL lits lit = 0) (hA : A.length ≤ 600001) (hB : B ≤ w.heap.size) :
    Calls Tryz.prog 86 #[va, .int .i64 lit] w (SomeWide w B (lits ++ [lit]) (Nat.max A.length (q + 1))) := by
  have K1 := wide16_ok h hr (q := q) (by omega) hA hB
  have Hv := Lib.hid hv
  have Hq := Lib.hid hq
  clear h hr hv
  go_enter Tryz.func86, Tryz.ntmps86
  go_upto_region 2 with (go_at_call 98; (with_reducible refine K1.mono ?_); rintro e w1 ⟨va1, A1, rfl, hP⟩; have HP := Lib.hid hP; clear hP)
  have hlt : q < A1.length := by rw [HP.out.len]; show q < max A.length (q + 1); omega
  obtain ⟨ga, cap, rfl, _, hgw, hcap⟩ := own_form HP.out.av (by omega)
  have hav : w1.ownsRow B 26 1 (.slice (some ⟨ga, 0, none⟩) A1.length cap) A1.length (A1.map (Value.int .i8)) := HP.out.av
  have y0 : w1.cell? ⟨ga, q, none⟩ = some (.int .i8 A1[q]) := by rw [hav.cellAt q (by omega), List.getElem?_map, List.getElem?_eq_getElem hlt]; rfl
  have f0 := own_frozen hav q
  generalize A1[q] = v at y0
  have t1 : (0 : Int) ≤ (q : Int) := by omega
  have t2 : (q : Int) < (A1.length : Int) := by omega
  have Hset := Lib.hid (show ∀ W : World, W.ownsRow B 26 1 (.slice (some ⟨ga, 0, none⟩) A1.length cap) A1.length ((A1.set q (1 + lit % 2)).map (Value.int .i8)) → Below B w W → KeepI w W → WidePost w W B (.slice (some ⟨ga, 0, none⟩) A1.length cap) (A1.set q (1 + lit % 2)) (lits ++ [lit]) (Nat.max A.length (q + 1)) from fun W ho hb hk =>
    ⟨by unfold AV; rw [List.length_set]; exact ho, rep_set HP.out.rep Hv.out Hq.out hlt, by rw [List.length_set]; exact HP.out.len, hb, hk⟩)
  have hgB : B ≤ ga := own_base_le hav ga rfl
  have Hav := Lib.hid hav
  clear hav K1
  rcases (show lit % 2 = 0 ∨ lit % 2 = 1 by omega) with hp | hp
  · rw [hp] at Hset
    have s1 := (World.ownsRow.stored Hav.out q (.int .i8 1)).1
    have S1 := Lib.hid (Hset.out _ (by rw [List.map_set]; exact s1) (HP.out.bel.setCell hgB _) (HP.out.keep.trans (KeepI.set Hav.out rfl _)))
    clear s1
    go_wp2
    go_ret
    exact ⟨_, _, rfl, S1.out⟩
  · rw [hp] at Hset
    have s1 := World.ownsRow.stored Hav.out q (.int .i8 1)
    have s2 := (World.ownsRow.stored s1.1 q (.int .i8 2)).1
    rw [List.set_set] at s2
    have S1 := Lib.hid (Hset.out _ (by rw [List.map_set]; exact s2) ((HP.out.bel.setCell hgB _).setCell hgB _) ((HP.out.keep.trans (KeepI.set Hav.out rfl _)).trans (KeepI.set s1.1 rfl _)))
    clear s1 s2
    go_wp2
    go_ret
    exact ⟨_, _, rfl, S1.out⟩
end
section
open Go.RowKit Go.Lib
theorem LitsOk.nodup {l : List Int} (h : LitsOk l) : l.Nodup := h.dis.imp fun h e => h (by rw [e])
theorem len_le_of_sub : ∀ (l m : List Int), l.Nodup → (∀ x ∈ l, x ∈ m) → l.length ≤ m.length
  | [], _, _, _ => Nat.zero_le _
  | x :: r, m, hn, hs => by
    obtain ⟨h1, h2⟩ := List.nodup_cons.1 hn
    have hx := hs x List.mem_cons_self
    have := len_le_of_sub r (m.erase x) h2 fun y hy => by
      have hne : y ≠ x := fun e => h1 (by rw [← e]; exact hy)
      exact (List.mem_erase_of_ne hne).2 (hs y (List.mem_cons_of_mem _ hy))
    rw [List.length_erase_of_mem hx] at this
    have := List.length_pos_of_mem hx
    rw [List.length_cons]
    omega
theorem run_sub {cs cs' : List (List Int)} {given given' : List Int} (h : ∀ c ∈ cs', c ∈ cs) (hg : ∀ x ∈ given', x ∈ given) (hk : (runM cs given).2 = -1) : (runM cs' given').2 = -1 ∧ ∀ x ∈ (runM cs' given').1, x ∈ (runM cs given).1 := by
  obtain ⟨h1, h2⟩ := run_none hk
  refine run_least (run_lits cs given) (fun x hx hw => h1 x (hg x hx) hw) (plains_nodup cs') fun c hc => ?_
  obtain ⟨d, hd, rfl⟩ := List.mem_map.1 hc
  exact h2 _ (List.mem_map.2 ⟨d, h d hd, rfl⟩)
theorem givens_all : ∀ (l acc : List Int), LitsOk (acc ++ l) → givenM l acc = (acc ++ l, true)
  | [], acc, _ => by unfold givenM; rw [List.append_nil]
  | x :: r, acc, h => by
    unfold givenM
    have hx := h.rng x (by simp)
    have hv : valL acc x = 0 := by
      rw [valL_zero]
      have hd := (List.pairwise_append.1 h.dis).2.2
      exact ⟨fun hm => hd x hm x (by simp) rfl, fun hm => hd (negM x) hm x (by simp) negM_half⟩
    rw [if_neg (by rw [(wide_iff x).2 hx]; decide), if_neg (by rw [hv]; decide), if_neg (by rw [hv]; decide), givens_all r (acc ++ [x]) (by simpa using h)]
    simp
theorem run_again {cs : List (List Int)} {given : List Int} (hk : (runM cs given).2 = -1) : runM cs (runM cs given).1 = ((runM cs given).1, -1) := by
  have hok := run_lits cs given
  obtain ⟨_, h2⟩ := run_none hk
  generalize (runM cs given).1 = lits at hok h2
  have hg := givens_all lits [] (by simpa using hok)
  rw [List.nil_append] at hg
  unfold runM
  rw [hg]
  simp only [if_true]
  rw [runL]
  rcases look_cases (valL lits) (cs.map plainM) with ⟨_, c, hc, hf⟩ | ⟨e1, e2, _⟩ | ⟨_, _, _, c, hc, hx, hv, ho⟩
  · exact absurd hf (h2 c hc).1
  · rw [if_neg (by omega), if_pos e2]
  · exact absurd (by rw [st_two_of (plains_nodup cs c hc) hx hv ho]) (h2 c hc).2
/-- Clauses turned about. -/
def turned {α : Type} (R : List α) (s : Nat) (d : α) : List α := (List.range R.length).map fun i => R.getD ((i + s) % R.length) d
theorem turned_len {α : Type} (R : List α) (s : Nat) (d : α) : (turned R s d).length = R.length := by unfold turned; rw [List.length_map, List.length_range]
theorem turned_get {α : Type} (R : List α) (s : Nat) (d : α) {i : Nat} (h : i < R.length) (h2 : i < (turned R s d).length) : (turned R s d)[i] = R[(i + s) % R.length]'(Nat.mod_lt _ (by omega)) := by
  simp only [turned, List.getElem_map, List.getElem_range]
  rw [List.getD_eq_getElem?_getD, List.getElem?_eq_getElem (Nat.mod_lt _ (by omega))]
  rfl
theorem turned_mem {α : Type} (R : List α) (s : Nat) (d : α) (hs : s < R.length) (x : α) : x ∈ turned R s d ↔ x ∈ R := by
  constructor
  · intro h
    obtain ⟨i, hi, rfl⟩ := List.mem_iff_getElem.1 h
    rw [turned_get R s d (by rw [turned_len] at hi; exact hi)]
    exact List.getElem_mem _
  · intro h
    obtain ⟨j, hj, rfl⟩ := List.mem_iff_getElem.1 h
    have hi : (j + R.length - s) % R.length < R.length := Nat.mod_lt _ (by omega)
    have e : ((j + R.length - s) % R.length + s) % R.length = j := by
      rw [Nat.mod_add_mod]
      have : j + R.length - s + s = j + R.length := by omega
      rw [this, Nat.add_mod_right, Nat.mod_eq_of_lt hj]
    have hi2 : (j + R.length - s) % R.length < (turned R s d).length := by rw [turned_len]; exact hi
    have h2 := turned_get R s d hi hi2
    simp only [e] at h2
    rw [← h2]
    exact List.getElem_mem hi2
end
section
open Go.RowKit Go.Lib Go.ChangeShapes Go.WideShapes Go.ChangeAt
set_option maxRecDepth 100000 in
theorem wp_append_any {o : Oper} {a : Act} {K : Act → World → Prop} {Q : Exit → Act → World → Prop} (w : World) (s x : Operand)
    (ho : o.op = .call { callee := .builtin .append, args := #[s, x], argTypes := #[23, 23] })
    (base : Nat) (v : Value) (n : Nat) (xs : List Int) (hs : a.eval s = v) (hown : w.ownsRow base 3 1 v n (xs.map (Value.int .i64)))
    (A : Option Addr) (l c : Nat) (z : List Int) (hx : a.eval x = .slice A l c) (hrow : IsRow .i64 w A l c z) (hb : (n + l) * 8 ≤ 140737488355328) (hbase : base ≤ w.heap.size)
    (h : ∀ v' w', w'.ownsRow base 3 1 v' (n + l) ((xs ++ z.take l).map (Value.int .i64)) → w.grownBy w' v.ownBlock → K (a.put o.dst v') w') : o.wp Tryz.prog a w K Q := by
  obtain ⟨i0, hi, hz0, hz1, hz2⟩ := info_parts int_info
  rcases hrow with ⟨rfl, rfl, rfl, rfl⟩ | ⟨ad, rfl, h1, h2, h3, h4, _⟩
  · have hrun := run_append_owned_none (P := Tryz.prog) (w := w) base 23 o.type 3 i0 1 Tryz.underlying23 hi v n _ hown
    have h1 := h v w (by rw [List.take_nil, List.append_nil]; exact hown) ⟨rfl, rfl, rfl, Nat.le_refl _, fun _ _ _ => rfl⟩
    unfold Oper.wp execOp
    simp only [ho, resolve, invoke, builtin, Sem.run_bind, Sem.run_pure, Result.andThen_ok, List.map_toArray, List.map_cons, List.map_nil, hs, hx]
    rw [hrun]
    exact h1
  · have hlen : (z.take l).length = l := by rw [List.length_take]; omega
    have hnews : ∀ j u, ((z.take l).map (Value.int .i64))[j]? = some u → w.cell? (ad.add j) = some u := by
      intro j u hj
      rw [List.getElem?_map] at hj
      have hjl : j < (z.take l).length := by
        rcases Nat.lt_or_ge j (z.take l).length with h1 | h1
        · exact h1
        · rw [List.getElem?_eq_none h1] at hj; cases hj
      rw [List.getElem?_eq_getElem hjl, List.getElem_take] at hj
      injection hj with hj
      rw [hlen] at hjl
      rw [h4 j (by omega), List.getD_eq_getElem?_getD, List.getElem?_eq_getElem (by omega), ← hj]
      rfl
    have h1c : ∀ u ∈ (z.take l).map (Value.int .i64), u.oneCell' = true := by
      intro u hu
      obtain ⟨x, _, rfl⟩ := List.mem_map.1 hu
      rfl
    exact wp_append_own w s x 23 ho base 3 i0 (.int .i64 0) 1 8 Tryz.underlying23 hi hz0 hz1 hz2 rfl (by decide) v n _ hs hown ad l c _ hx (by rw [List.length_map, hlen, Nat.mul_one]) hnews h1c (by unfold maxLen; omega) hb hbase
      fun v' w' h2 h3 _ => h v' w' (by rw [List.map_append]; exact h2) h3
theorem list_append_any {ops : Array Oper} {rest : List Oper} {o : Oper} {a : Act} {Q : Exit → Act → World → Prop} (w : World) (hw : Region.wanted o (yielded ops a.tmps) = true) (s x : Operand)
    (ho : o.op = .call { callee := .builtin .append, args := #[s, x], argTypes := #[23, 23] })
    (base : Nat) (v : Value) (n : Nat) (xs : List Int) (hs : a.eval s = v) (hown : w.ownsRow base 3 1 v n (xs.map (Value.int .i64)))
    (A : Option Addr) (l c : Nat) (z : List Int) (hx : a.eval x = .slice A l c) (hrow : IsRow .i64 w A l c z) (hb : (n + l) * 8 ≤ 140737488355328) (hbase : base ≤ w.heap.size)
    (h : ∀ v' w', w'.ownsRow base 3 1 v' (n + l) ((xs ++ z.take l).map (Value.int .i64)) → w.grownBy w' v.ownBlock → wpList Tryz.prog ops Q rest (a.put o.dst v') w') : wpList Tryz.prog ops Q (o :: rest) a w :=
  wpList_step fun K hK => by
    rw [if_pos hw]
    exact wp_append_any w s x ho base v n xs hs hown A l c z hx hrow hb hbase fun v' w' h1 h2 => hK _ _ (h v' w' h1 h2)
theorem IsRow.alloc {k : IntKind} {w : World} {A : Option Addr} {l c : Nat} {z : List Int} (h : IsRow k w A l c z) (o : Obj) : IsRow k (w.alloc o) A l c z := by
  rcases h with h | ⟨x, h0, h1, h2, h3, h4, h5⟩
  · exact .inl h
  · exact .inr ⟨x, h0, h1, h2, h3, fun i hi => Lib.cell?_alloc_some _ (h4 i hi), h5⟩
theorem IsGrid.below {w w' : World} {a : Option Addr} {len cap : Nat} {A : Nat → Option Addr} {L C : Nat → Nat} {Z : Nat → List Int} (h : IsGrid w a len cap A L C Z) (hb : Below w.heap.size w w') : IsGrid w' a len cap A L C Z := by
  have hc : ∀ p v, w.cell? p = some v → w'.cell? p = some v := fun p v hv => (hb.cell (World.block_lt_of_cell? _ _ hv)).trans hv
  rcases h with h | ⟨x, h0, h1, h2, h3⟩
  · exact .inl h
  · refine .inr ⟨x, h0, h1, h2, fun r hr => ?_⟩
    obtain ⟨g1, g2, g3, g4, g5, g6, g7⟩ := h3 r hr
    exact ⟨hc _ _ g1, g2, g3, g4, g5, g6, fun a' ha c' hc' => hc _ _ (g7 a' ha c' hc')⟩
theorem own_one (w : World) (x : Int) : (w.alloc (.cells #[.int .i64 x] 3)).ownsRow w.heap.size 3 1 (.slice (some ⟨w.heap.size, 0, none⟩) 1 1) 1 (([x] : List Int).map (Value.int .i64)) :=
  ⟨rfl, .inr ⟨w.heap.size, 1, #[.int .i64 x], rfl, Nat.le_refl _, heap_alloc_new w _, Nat.le_refl _, by decide, rfl, rfl⟩⟩
/-- The same of a slice that came in, with what its datum is. -/
theorem isRow_sized {H : Type} {enc : TypeId × Value → H} {P : Program} {W : World} {b : Nat} {hd : Bool} {t e : TypeId} {k : IntKind} {a : Option Addr} {len cap : Nat} {d : DataW H} {p : List MemPlace}
    (ht : P.underlying t = some (.slice e)) (he : P.underlying e = some (.int k)) (hc : P.cellsOf e = 1) (h : DataW.Trod enc P W b (fun _ => true) hd t (.slice a len cap) d p) : ∃ zs, IsRow k W a len cap zs ∧ (cap = 0 ∨ ∃ el sp, d = .slice el sp ∧ el.length + sp.length = cap) := by
  obtain ⟨fuel, hf⟩ := h
  rcases open_ints ht he hc hf with ⟨hcs, _⟩ | ⟨x, l, c, zs, hcs, _, hl, hm, hz, hd, hcell, hwz⟩
  · simp [Value.cells] at hcs
    obtain ⟨rfl, rfl, rfl⟩ := hcs
    exact ⟨[], .inl ⟨rfl, rfl, rfl, rfl⟩, .inl rfl⟩
  · simp [Value.cells] at hcs
    obtain ⟨rfl, rfl, rfl⟩ := hcs
    have hzl : zs.length = cap := by simpa using hz
    refine ⟨zs, .inr ⟨_, rfl, hl, hm, hzl, hcell, hwz⟩, .inr ⟨_, _, (congrArg Prod.fst hd), ?_⟩⟩
    simp only [lits, List.length_map, List.length_take, List.length_drop]
    omega
end
end Go.Proofs.YtmbekchnfbmhbaaGreat

/- run, where the level is not 0. -/
import Derived.Test.YtmbekchnfbmhbaaGreatLrnIn
namespace Go.Proofs.YtmbekchnfbmhbaaGreat
open Go.RowKit Go.Lib
attribute [local go_sem] Oper.semAt_some

/-- What run leaves, told by what is learnt. -/
def LearnPost (w : World) (A0 : Option Addr) (o : Option (List Int × Int × List Int)) (e : Ending) (w' : World) : Prop := match o with
  | none => RunPost w A0 [] 0 [] 2 e w'
  | some r => RunPost w A0 r.1 r.2.1 r.2.2 0 e w'

theorem NoOut.normal {Q : Exit → Act → World → Prop} {a : Act} {w : World} (h : Q .normal a w) : NoOut Q .normal a w := h
theorem row_one {w : World} (x : Int) : Row .i64 (w.alloc (.cells #[.int .i64 x] 3)).drew (some ⟨w.heap.size, 0, none⟩) [x] := by
  refine ⟨by simp, .inr ⟨w.heap.size, 0, rfl, by simp [World.drew], fun i hi => ?_⟩⟩
  obtain rfl : i = 0 := by simp at hi; omega
  exact (Blk.new w 3 #[.int .i64 x]).cell 0

theorem FalseC.resolves {M : Tr} {rows : List (List Int)} {kp : Nat} {put : Int} {c : List Int} {q : List Int × Int} (hM : M.Ok) (h : FalseC M c) (hr : resolvesM M rows kp put c = some q) : FalseC M q.1 := by
  unfold resolvesM at hr
  split at hr
  · cases hr
  · split at hr
    · cases hr
    · split at hr
      · split at hr
        · rename_i hm
          injection hr with hr
          rw [← hr]
          exact h.res hM hm
        · cases hr
      · cases hr

theorem NoOut.imp {Q : Exit → Act → World → Prop} : ∀ (e : Exit) (a : Act) (w : World), NoOut Q e a w → Q e a w := fun e a w h => by
  cases e <;> first | exact h | exact (h : False).elim
theorem wp_noOut {P : Program} {c : Code} {Q : Exit → Act → World → Prop} {a : Act} {w : World} (h : c.wp P (NoOut Q) a w) : c.wp P Q a w := wp_mono h NoOut.imp
theorem RunR.last {w W : World} {H l D b1 bt b9 bw bm : Nat} {rl : Loop} {lv : Int} {LA : Option Addr} {nl cl : Nat} {M : Tr} {CA : Option Addr} {cc : Nat} {c : List Int} {vh : Value} {ch : List Int} {LL : Option Addr} {c4 : Nat} {v6 : Value} {tb er : Int}
    (h : RunR w W H l D b1 bt b9 bw bm rl lv LA nl cl M CA cc c vh ch LL c4 v6 tb er) {A0 : Option Addr} (ha : Away A0 w H CA c) : RunAt (W.putObj D (.deferred none)) w.heap.size bt v6 tb er ∧ WK (W.putObj D (.deferred none)) H bw bt bm LA nl cl M CA cc c vh ch ∧ Below w.heap.size w (W.putObj D (.deferred none)) ∧ w.heap.size ≤ H := by
  have e9 := h.h9
  have em := h.hm
  have ew := h.hw
  have e1 := h.h1
  have eD := h.hD
  have el := h.hl
  have eH := h.hH
  have hk := Kept.putObj W D (.deferred none)
  refine ⟨h.at_.kept hk (fun k h1 h2 => by omega), h.wk.kept hk (by omega) (by omega) (fun g hg e => by have := (h.wk.own.lt g hg).1; omega) (h.wk.crow.kept hk fun h0 a e => ?_), h.kept.trans (hk.below h.kept.size (fun k hk => by omega)), by omega⟩
  rcases ha h0 a e with h | h <;> omega

/-- What a round finds, j literals ahead. -/
def XAt (A0 : Option Addr) (w : World) (H l D b1 bt b9 bw bm : Nat) (rl : Loop) (lv : Int) (LA : Option Addr) (nl cl : Nat) (M : Tr) (rows : List (List Int)) (LL : Option Addr) (c4 : Nat) (G : Option (List Int × List Int)) (j : Nat) (W : World) : Prop :=
  ∃ CA cc c vh ch, RunR w W H l D b1 bt b9 bw bm rl lv LA nl cl M CA cc c vh ch LL c4 (.pointer (some ⟨bw, 0, none⟩)) 0 0 ∧ goM M rows lv j c ch = G ∧ FalseC M c ∧ Away A0 w H CA c ∧ ch.length + j ≤ M.L.length
/-- What a round leaves that ends the loop. -/
def ZAt (A0 : Option Addr) (w : World) (H l D b1 bt b9 bw bm : Nat) (rl : Loop) (lv : Int) (LA : Option Addr) (nl cl : Nat) (M : Tr) (LL : Option Addr) (c4 : Nat) (G : Option (List Int × List Int)) (W : World) : Prop :=
  (∃ CA cc c vh ch, RunR w W H l D b1 bt b9 bw bm (doneRec rl (.exit 2)) lv LA nl cl M CA cc c vh ch LL c4 (.pointer (some ⟨bw, 0, none⟩)) 0 0 ∧ Away A0 w H CA c ∧ G = some (c, ch)) ∨
  (∃ bz, LoopAt W l D (doneRec rl .ret) ∧ RunAt W w.heap.size bt (.pointer (some ⟨bz, 0, none⟩)) 0 2 ∧ Blk W bz 102 #[.pointer none, .slice none 0 0, .map none, .slice none 0 0, .slice none 0 0] ∧ Below w.heap.size w W ∧ G = none)

set_option maxRecDepth 100000 in
set_option maxHeartbeats 4000000 in
theorem run_main {w : World} {BT bt ba cl cap : Nat} {LA A : Option Addr} {R : List (Option Addr × Nat × List Int)} {M : Tr} {c : List Int} {lv : Int}
    (hT : TT w BT bt ba M) (hg : Grid w LA R) (hc : Row .i64 w A c) (hn : A = none → cap = 0) (hR : R.length ≤ 1000000) (he : ∀ r ∈ R, r.2.2.length ≤ 1000) (hmx : ∀ r ∈ R, ∀ x ∈ r.2.2, x ≤ 1000000)
    (hl : levelM M c = some lv) (h0 : lv ≠ 0) :
    Calls Tryz.prog 68 #[.pointer (some ⟨bt, 0, none⟩), .slice LA R.length cl, .slice A c.length cap] w (LearnPost w A (learnM M (rowsOf R) c)) := by
  have hmm := @run_makeMap Tryz.prog
  have K2 := level_fn cap (hT.below (runW_below w bt)) (hc.below (runW_below w bt)) hn
  rw [hl, show lvlV (some lv) = .tuple #[.int .i64 lv, .int .i64 0] from rfl] at K2
  have K3 := fun W (hb : Below w.heap.size w W) => all_T (hT.below hb)
  have hlr := levelM_range hT.ok hl
  have hlearn : learnM M (rowsOf R) c = match goM M (rowsOf R) lv M.L.length c [] with
    | none => none
    | some r => some (r.1, backN M r.1 lv, r.2) := by
    unfold learnM
    rw [hl]
    simp only
    rw [if_neg h0]
    cases goM M (rowsOf R) lv M.L.length c [] <;> rfl
  obtain ⟨o, ho⟩ : ∃ o, learnM M (rowsOf R) c = o := ⟨_, rfl⟩
  rw [ho]
  rw [ho] at hlearn
  have HO := Lib.hid hlearn
  have hf := FalseC.of_level hT.ok hl
  have ha := runW_at w bt
  have hb := runW_below w bt
  have hsz := runW_size w bt
  have hok := hT.ok
  have d1 : (lv == 0) = false := by simpa using h0
  refine callsIn_wide.1 (callsIn_of_wp_marks (n := 2) Tryz.func68 rfl trivial (wpIn_wide.2 ?_) rfl)
  simp only [Tryz.ntmps68, List.size_toArray, List.length_cons, List.length_nil, Nat.reduceAdd, Nat.reduceSub, Array.replicate_succ, Array.replicate_zero, List.push_toArray, List.append_toArray, List.nil_append, List.cons_append]
  go_wp2
  change Code.wp _ _ _ _ (runW w bt)
  generalize runW w bt = w0 at *
  have a3 := ha.t.cell 0
  simp only [List.getElem?_toArray, List.getElem?_cons_zero] at a3
  have HA := Lib.hid ha
  have HB := Lib.hid hb
  have HT := Lib.hid hT
  have HG := Lib.hid hg
  have HC := Lib.hid hc
  have HE := Lib.hid he
  have HM := Lib.hid hmx
  have HF := Lib.hid hf
  have HN := Lib.hid hn
  have HOK := Lib.hid hok
  clear ha hb hT hg hc he hmx hf hn hlearn hl hok ho
  go_step3
  go_wp2_with (first
    | (go_at_call 56; go_loud (refine K2.mono ?_; rintro e w1 ⟨rfl, hb1⟩; have ha2 := (HA.out.below hb1 (by omega)).alloc (.cells #[.int .i64 lv] 3); have HA2 := Lib.hid ha2; have e8 := ha2.r8.cell 0; have f8 := ha2.r8.frozen 0; simp only [List.getElem?_toArray, List.getElem?_cons_zero] at e8; have hs1 := hb1.size; have HB2 := Lib.hid (((HB.out.trans (hb1.mono (by omega))).alloc (by omega) (.cells #[.int .i64 lv] 3)).trans ((Kept.set1 (w1.alloc (.cells #[.int .i64 lv] 3)) (w.heap.size + 1 + 1 + 1) 0 (.int .i64 0)).below (by simp; omega) (fun k hk => by omega))); have HA3 := Lib.hid (ha2.set8 0); have q8 := (ha2.set8 0).r8.cell 0; have q3 := (ha2.set8 0).t.cell 0; have hl9 := ((Blk.new w1 3 #[.int .i64 lv]).kept (Kept.set1 _ (w.heap.size + 1 + 1 + 1) 0 (.int .i64 0)) (by omega)); have HL9 := Lib.hid hl9; have v9 := hl9.cell 0; simp only [List.getElem?_toArray, List.getElem?_cons_zero] at q8 v9 q3; clear hb1 ha2 hl9))
    | (go_at_call 76; go_loud (refine (K3 _ HB2.out).mono ?_; rintro e w4 ⟨v, rfl, hv4, hb4⟩; obtain ⟨LL, cl4, rfl, _⟩ := hv4.form; have ha4 := HA3.out.below hb4 HA3.out.lt; have k3 := ha4.t.cell 0; have ha6 := (ha4.alloc (.map #[] 0)).alloc (.cells #[.pointer (some ⟨bt, 0, none⟩), .slice LA R.length cl, .map (some w4.heap.size), .slice A c.length cap, .slice none 0 0] 102); have c6 := ha6.r6.cell 0; have f6 := ha6.r6.frozen 0; simp only [List.getElem?_toArray, List.getElem?_cons_zero] at k3 c6; have HA4 := Lib.hid ha4; have HV4 := Lib.hid hv4; have HB4 := Lib.hid hb4; clear ha4 ha6 hv4 hb4)))
  have hkm : RunL w (((w4.alloc (.map #[] 0)).alloc (.cells #[.pointer (some ⟨bt, 0, none⟩), .slice LA R.length cl, .map (some w4.heap.size), .slice A c.length cap, .slice none 0 0] 102)).setCell ⟨w.heap.size + 1, 0, none⟩ (.pointer (some ⟨w4.heap.size + 1, 0, none⟩))) bt w1.heap.size (w4.heap.size + 1) w4.heap.size lv LA R.length cl M A c.length cap LL cl4 0 := by
    have hs4 := HB4.out.size
    have hs4' : w1.heap.size + 1 ≤ w4.heap.size := by simpa using hs4
    have hl3 := HA3.out.lt
    have hl9 := HL9.out.below HB4.out HL9.out.lt
    have hset := Kept.set1 ((w4.alloc (.map #[] 0)).alloc (.cells #[.pointer (some ⟨bt, 0, none⟩), .slice LA R.length cl, .map (some w4.heap.size), .slice A c.length cap, .slice none 0 0] 102)) (w.heap.size + 1) 0 (.pointer (some ⟨w4.heap.size + 1, 0, none⟩))
    have hmade := ((MapAt.made Tryz.prog 3 w4).alloc (.cells #[.pointer (some ⟨bt, 0, none⟩), .slice LA R.length cl, .map (some w4.heap.size), .slice A c.length cap, .slice none 0 0] 102)).kept hset (by have := HA4.out.lt; omega)
    have hb4w : Below w.heap.size w w4 := HB2.out.trans (HB4.out.mono (by omega))
    have hal : Below w4.heap.size w4 ((w4.alloc (.map #[] 0)).alloc (.cells #[.pointer (some ⟨bt, 0, none⟩), .slice LA R.length cl, .map (some w4.heap.size), .slice A c.length cap, .slice none 0 0] 102)) := ((Below.refl _ w4).alloc (Nat.le_refl _) _).alloc (by simp) _
    obtain ⟨H4, hH4, hv4⟩ : ∃ H4, w.heap.size + 4 ≤ H4 ∧ w4.ownsRow H4 3 1 (.slice LL M.L.length cl4) (litsM M).length ((litsM M).map (Value.int .i64)) := by
      have h := HV4.out
      unfold IntsFrom at h
      rw [show Value.slice LL (List.map Pt.lit M.L).length cl4 = .slice LL M.L.length cl4 by rw [List.length_map]] at h
      exact ⟨_, by simp; omega, h⟩
    have hlow := own_lower hv4 hH4
    have hall := own_kept (own_kept hlow (Kept.of_below (S := fun _ => False) hal) (fun _ _ h => h)) hset (fun g hg e => by have := (hv4.lt g hg).1; omega)
    refine ⟨((HA4.out.alloc _).alloc _).set6 _, ?_, ?_, hmade.congr (fun key kl _ => posF_zero M key), hall, by omega, by omega, by omega, ?_⟩
    · exact ((hl9.alloc _).alloc _).kept hset (by omega)
    · exact (Blk.new_at (by simp) _ _).kept hset (by omega)
    · exact (hb4w.trans (hal.mono hb4w.size)).trans (hset.below (by have := hal.size; have := hb4w.size; omega) (fun k hk => by omega))
  generalize ((w4.alloc (.map #[] 0)).alloc (.cells #[.pointer (some ⟨bt, 0, none⟩), .slice LA R.length cl, .map (some w4.heap.size), .slice A c.length cap, .slice none 0 0] 102)).setCell ⟨w.heap.size + 1, 0, none⟩ (.pointer (some ⟨w4.heap.size + 1, 0, none⟩)) = w6 at *
  have HKM := Lib.hid hkm
  clear hkm HA4 HV4 HB4 HL9 HA3 HB2 HA2 HA HB K2 q3 q8 v9 e8 f8 c6 f6 k3 a3 hsz hs1
  generalize w4.heap.size + 1 = bw at *
  generalize w4.heap.size = bm at *
  generalize w1.heap.size = b9 at *
  go_loopw [40] (fun vi wr => ∃ i : Nat, i ≤ (litsM M).length ∧ vi = .int .i64 i ∧ RunL w wr bt b9 bw bm lv LA R.length cl M A c.length cap LL cl4 i) (fun vi _ => ((litsM M).length - intOf vi).toNat)
  case atStart => exact ⟨0, Nat.zero_le _, rfl, HKM.out⟩
  case round =>
    obtain ⟨i, hi, rfl, hrl⟩ := hrel
    have hml : (litsM M).length ≤ 65536 := by rw [litsM_len]; have := HOK.out.len; have := HOK.out.n; omega
    have hml2 : M.L.length ≤ 65536 := by have := HOK.out.len; have := HOK.out.n; omega
    by_cases hlt : i < (litsM M).length
    · have d2 : decide ((i : Int) < (M.L.length : Int)) = true := by rw [litsM_len] at hlt; simp; omega
      have d3 : decide (i < M.L.length) = true := by rw [litsM_len] at hlt; simpa using hlt
      have t1 : (0 : Int) ≤ (i : Int) := by omega
      have t2 : (i : Int) < (M.L.length : Int) := by rw [litsM_len] at hlt; omega
      have hrow := (row_own hrl.all (by rw [litsM_len]; have := HOK.out.len; have := HOK.out.n; omega)).1
      obtain ⟨b, off, hA, hb, hcell⟩ := hrow.at_.resolve_left (by omega)
      subst hA
      have y0 := hcell i hlt
      have hx := lits_range HOK.out (List.getElem_mem hlt)
      have c6 := hrl.at_.r6.cell 0
      have b2 := hrl.wk.cell 2
      simp only [List.getElem?_toArray, List.getElem?_cons_zero, List.getElem?_cons_succ] at c6 b2
      obtain ⟨w5, q2, hm5, hg5⟩ := hrl.map.store int_key Tryz.underlying100 (by unfold maxLen; have := HOK.out.len; have := HOK.out.n; rw [litsM_len] at hlt; omega) (int_key_of (x := (litsM M)[i]) (by omega) (by omega)) (.int .i64 (i : Nat)) (posF_at (lits_ne HOK.out) hlt) (posF_far hlt)
      have HS := Lib.hid (hrl.step hm5 hg5)
      clear hrl hrow hcell hm5 hg5 hx
      generalize (litsM M)[i] = x at *
      go_wp2
      exact ⟨⟨i + 1, by omega, by go_num, HS.out⟩, by simp only [intOf]; omega⟩
    · obtain rfl : i = (litsM M).length := by omega
      have d2 : decide (((litsM M).length : Int) < (M.L.length : Int)) = false := by rw [litsM_len]; simp
      have d3 : decide ((litsM M).length < M.L.length) = false := by rw [litsM_len]; simp
      have HRL := Lib.hid hrl
      clear hrl hmm K3
      go_wp2_with (go_at_call 77; go_loud (refine (latest_fn _ _ _).mono ?_; rintro e w7 ⟨rfl, rfl⟩))
      go_step3
      go_wp2_with (go_at_call 77; go_loud (refine (latest_fn _ _ _).mono ?_; rintro e w7 ⟨rfl, rfl⟩))
      have hlits : (litsM M).length = M.L.length := litsM_len M
      have hwb : w.heap.size + 4 ≤ wr.heap.size := HRL.out.at_.lt
      have hG0 : ∀ r, RunR w (((wr.alloc (.cells #[.slice LL M.L.length cl4] 23)).alloc (.deferred (some []))).alloc (.loop r)) (wr.heap.size + 1 + 1 + 1) (wr.heap.size + 1 + 1) (wr.heap.size + 1) wr.heap.size bt b9 bw bm r lv LA R.length cl M A cap c (.slice none 0 0) [] LL cl4 (.pointer (some ⟨bw, 0, none⟩)) 0 0 := by
        intro r
        have hl := LoopAt.new (wr.alloc (.cells #[.slice LL M.L.length cl4] 23)) r
        rw [World.size_alloc] at hl
        have hb0 : Below wr.heap.size wr (((wr.alloc (.cells #[.slice LL M.L.length cl4] 23)).alloc (.deferred (some []))).alloc (.loop r)) := (((Below.refl _ wr).alloc (Nat.le_refl _) _).alloc (by simp) _).alloc (by simp; omega) _
        have hrl := HRL.out
        have hwl := hrl.wk.lt
        have hm0 := hrl.map
        rw [hlits] at hm0
        refine ⟨hl, hrl.at_.below hb0 hrl.at_.lt, hrl.l9.below hb0 hrl.l9.lt, ⟨hrl.wk.below hb0 hwl, (HC.out.below hrl.kept).below hb0, HN.out, World.ownsRow_nil _ _ _ _, hm0.below hb0 hm0.lt, fun _ a _ => by simp [Value.ownBlock]⟩,
          own_kept hrl.all (Kept.of_below (S := fun _ => False) hb0) (fun _ _ h => h), ((Blk.new wr _ _).alloc _).alloc _, fun g hg => by have := (hrl.all.lt g hg).2; omega, hrl.h9, hrl.hm, hrl.hw, hwl, by omega, by omega, by omega, by simp, hrl.kept.trans (hb0.mono hrl.kept.size)⟩
      have HRL2 := HRL
      obtain ⟨W3, hW3⟩ : ∃ W3, wr.alloc (.cells #[.slice LL M.L.length cl4] 23) = W3 := ⟨_, rfl⟩
      have hs3 : W3.heap.size = wr.heap.size + 1 := by rw [← hW3]; simp
      rw [hW3] at hG0 ⊢
      clear hW3
      refine wpIn_wide.1 (rangeFunc_wide (n := 2) (gf := 92) rfl (fun _ _ => by simp [invoke, go_sem]) fun fn r hr => ?_)
      rw [hs3]
      generalize hG : goM M (rowsOf R) lv M.L.length c [] = G at *
      have hx0 := hG0 r
      clear hG0
      have HX0 := Lib.hid hx0
      clear hx0
      generalize wr.heap.size = b1 at *
      refine callsIn_wide.2 ((latest_iter (b1 + 1 + 1) b1 (litsM M) LL cl4
        (XAt A w (b1 + 1 + 1 + 1) (b1 + 1 + 1) (b1 + 1) b1 bt b9 bw bm r lv LA R.length cl M (rowsOf R) LL cl4 G)
        (ZAt A w (b1 + 1 + 1 + 1) (b1 + 1 + 1) (b1 + 1) b1 bt b9 bw bm r lv LA R.length cl M LL cl4 G) (by omega) ?_ ?_ _ ?_).mono ?_)
      · rintro j W ⟨CA, cc, c', vh, ch, hR, _⟩
        refine ⟨(row_own hR.all (by omega)).1, ?_⟩
        rw [hlits]
        exact hR.x1
      · intro i W hi hx
        have e1 := congrArg Loop.tmps hr
        have e2 := congrArg Loop.params hr
        have e3 := congrArg Loop.assign hr
        have e4 := congrArg Loop.body hr
        have e5 := congrArg Loop.state hr
        have e6 := congrArg Loop.pending hr
        simp only [loopRec] at e1 e2 e3 e4 e5 e6
        obtain ⟨CA, cc, c', vh, ch, hR0, hgo, hfc, haw, hch⟩ := hx
        have HAW := Lib.hid haw
        clear haw
        refine ⟨_, _, _, _, run_yield hR0.loop.rec_ (by rw [e2]; rfl), ?_⟩
        rw [e1, e2, e3, e4]
        clear e1 e2 e3 e4 hr
        refine roundIn_of_wpIn trivial ?_
        simp only [List.zip_toArray, List.zip_cons_cons, List.zip_nil_right, List.foldl_toArray', List.foldl_cons, List.foldl_nil, List.setIfInBounds_toArray, List.set_cons_succ, List.set_cons_zero]
        have hbr := Lib.hid (hR0.loop.begin_ (P := Tryz.prog) e5)
        have hR2 := hR0.put (busyRec r)
        generalize W.putObj (b1 + 1 + 1) (.loop (busyRec r)) = W2 at *
        have HR2 := Lib.hid hR2
        have HGO := Lib.hid hgo
        have HFC := Lib.hid hfc
        have hrange := lits_range HOK.out (List.getElem_mem hi)
        have hputk : (litsM M)[i]? = some (litsM M)[i] := List.getElem?_eq_getElem hi
        have HPK := Lib.hid hputk
        have hpos := posOf_at (lits_ne HOK.out) hi
        have HPOS := Lib.hid hpos
        have hg1 : cntM M c' lv = 1 → G = some (c', ch) := fun h => by rw [← hgo, goM, if_pos h]
        have hg2 : cntM M c' lv ≠ 1 → G = if (decide (negM (litsM M)[i] ∈ c') && (levOf M (litsM M)[i] == lv)) = true then (match resolvesM M (rowsOf R) i (litsM M)[i] c' with
           | none => none
           | some q => goM M (rowsOf R) lv i q.1 (ch ++ [q.2])) else goM M (rowsOf R) lv i c' ch := fun h => by rw [← hgo, goM, if_neg h, hputk]; rfl
        have HG1 := Lib.hid hg1
        have HG2 := Lib.hid hg2
        clear hg1 hg2 hR2 hgo hfc HX0 hR0 hputk hpos HRL HRL2 HKM HO hG hs3
        generalize (litsM M)[i] = put at *
        gi_wp2
        refine ⟨W2, hbr.out, ?_⟩
        gi_wp2
        have hRD := HR2.out.below (below_drewN (Below.refl W2.heap.size W2) 1)
        have K13 := count_fn cc (HT.out.below hRD.kept) hRD.wk.crow
        have s0 := hRD.at_.t.cell 0
        have s1 := hRD.at_.r6.cell 0
        have s2 := hRD.wk.blk.cell 3
        have s3 := hRD.l9.cell 0
        simp only [List.getElem?_toArray, List.getElem?_cons_zero, List.getElem?_cons_succ] at s0 s1 s2 s3
        have HRD := Lib.hid hRD
        have hbw := hRD.wk.blk.lt
        have hl9 := hRD.l9.lt
        have hal : w.heap.size + 4 ≤ W2.heap.size := hRD.at_.lt
        clear hRD
        refine wpIn_region_round (S := fun W' => W'.cell? ⟨w.heap.size, 0, none⟩ = some (.pointer (some ⟨bt, 0, none⟩)) ∧ W'.cell? ⟨w.heap.size + 1, 0, none⟩ = some (.pointer (some ⟨bw, 0, none⟩)) ∧ W'.cell? ⟨bw, 3, none⟩ = some (.slice CA c'.length cc) ∧ W'.cell? ⟨b9, 0, none⟩ = some (.int .i64 lv)) (by kernel_rfl) (by kernel_rfl) ⟨s0, s1, s2, s3⟩ (fun hHeld => ?_)
        refine wpAnyH_take (i := 0) (v := .pointer (some ⟨bt, 0, none⟩)) rfl (by kernel_rfl) (by kernel_rfl) (by kernel_rfl) (fun _ _ _ h => h) (Or.inl ⟨by rfl, fun wS hSw => ?_⟩) (by assumption) ?_
        · (obtain ⟨z0, z1, z2, z3⟩ := hSw; go_simp)
        try simp only [Act.put, List.setIfInBounds_toArray]
        refine wpAnyH_take (i := 1) (v := .pointer (some ⟨bw, 0, none⟩)) rfl (by kernel_rfl) (by kernel_rfl) (by kernel_rfl) (fun _ _ _ h => h) (Or.inl ⟨by rfl, fun wS hSw => ?_⟩) (by assumption) ?_
        · (obtain ⟨z0, z1, z2, z3⟩ := hSw; go_simp)
        try simp only [Act.put]
        refine wpAnyH_take (i := 2) (v := .pointer (some ⟨bw, 0, none⟩)) rfl (by kernel_rfl) (by kernel_rfl) (by kernel_rfl) (fun _ _ _ h => h) (Or.inl ⟨by rfl, fun wS hSw => ?_⟩) (by assumption) ?_
        · go_simp
        try simp only [Act.put]
        refine wpAnyH_take (i := 3) (v := .pointer (some ⟨bw, 3, none⟩)) rfl (by kernel_rfl) (by kernel_rfl) (by kernel_rfl) (fun _ _ _ h => h) (Or.inl ⟨by rfl, fun wS hSw => ?_⟩) (by assumption) ?_
        · go_simp
        try simp only [Act.put]
        refine wpAnyH_take (i := 4) (v := .slice CA c'.length cc) rfl (by kernel_rfl) (by kernel_rfl) (by kernel_rfl) (fun _ _ _ h => h) (Or.inl ⟨by rfl, fun wS hSw => ?_⟩) (by assumption) ?_
        · (obtain ⟨z0, z1, z2, z3⟩ := hSw; go_simp)
        try simp only [Act.put]
        refine wpAnyH_take (i := 6) (v := .int .i64 lv) rfl (by kernel_rfl) (by kernel_rfl) (by kernel_rfl) (fun _ _ _ h => h) (Or.inl ⟨by rfl, fun wS hSw => ?_⟩) (by assumption) ?_
        · (obtain ⟨z0, z1, z2, z3⟩ := hSw; go_simp)
        try simp only [Act.put]
        refine wpAnyH_ready (rs := [5]) (by kernel_rfl) (by simp) ?_
        refine AllReadyH.cons rfl (fun K hK => ?_) AllReadyH.nil
        go_simp
        go_loud (refine K13.mono ?_)
        rintro e w4 ⟨rfl, hm4, hb4⟩
        refine hK.out _ _ ?_ (fun hHeld => ?_)
        · exact ⟨(hb4.cell (p := ⟨w.heap.size, 0, none⟩) (by show w.heap.size < W2.heap.size; omega)).trans s0, (hb4.cell (p := ⟨w.heap.size + 1, 0, none⟩) (by show w.heap.size + 1 < W2.heap.size; omega)).trans s1, (hb4.cell (p := ⟨bw, 3, none⟩) hbw).trans s2, (hb4.cell (p := ⟨b9, 0, none⟩) hl9).trans s3⟩
        clear hK K
        have q7 : (Instr.lookup 100 (.map (some W2.heap.size)) (.int .i64 lv) false).run Tryz.prog w4 = .ok (.int .i64 (cntM M c' lv : Nat)) w4 := cnt_look hm4 lv (by omega) (by omega)
        have hR4 := HRD.out.below hb4
        have HR4 := Lib.hid hR4
        clear hm4 hb4 hR4
        obtain ⟨n13, hn13⟩ : ∃ n, cntM M c' lv = n := ⟨_, rfl⟩
        rw [hn13] at HG1 HG2 q7
        by_cases hc1 : n13 = 1
        · subst hc1
          refine wpAnyH_ready (rs := [7]) (by kernel_rfl) (by simp) ?_
          refine AllReadyH.cons rfl (fun K hK => ?_) AllReadyH.nil
          go_simp
          refine hK.out _ _ ?_ (fun hHeld => ?_)
          · exact hHeld
          clear hK K
          refine wpAnyH_ready (rs := [8]) (by kernel_rfl) (by simp) ?_
          refine AllReadyH.cons rfl (fun K hK => ?_) AllReadyH.nil
          go_simp
          refine hK.out _ _ ?_ (fun hHeld => ?_)
          · exact hHeld
          clear hK K
          refine wpAnyH_ready (rs := [9]) (by kernel_rfl) (by simp) ?_
          refine AllReadyH.cons rfl (fun K hK => ?_) AllReadyH.nil
          go_simp
          refine hK.out _ _ ?_ (fun hHeld => ?_)
          · exact hHeld
          clear hK K
          refine wpAnyH_done (by kernel_rfl) ?_ _
          refine NoOut.normal ?_
          clear K13
          gi_wp2
          exact ⟨_, _, HR4.out.loop.stop_ (.exit 2), .inr ⟨rfl, .inl ⟨CA, cc, c', vh, ch, HR4.out.put _, HAW.out, HG1.out (by simp)⟩⟩⟩
        · have d13 : ((n13 : Int) == 1) = false := by simp; omega
          refine wpAnyH_ready (rs := [7]) (by kernel_rfl) (by simp) ?_
          refine AllReadyH.cons rfl (fun K hK => ?_) AllReadyH.nil
          go_simp
          refine hK.out _ _ ?_ (fun hHeld => ?_)
          · exact hHeld
          clear hK K
          refine wpAnyH_ready (rs := [8]) (by kernel_rfl) (by simp) ?_
          refine AllReadyH.cons rfl (fun K hK => ?_) AllReadyH.nil
          go_simp
          refine hK.out _ _ ?_ (fun hHeld => ?_)
          · exact hHeld
          clear hK K
          refine wpAnyH_ready (rs := [9]) (by kernel_rfl) (by simp) ?_
          refine AllReadyH.cons rfl (fun K hK => ?_) AllReadyH.nil
          go_simp
          refine hK.out _ _ ?_ (fun hHeld => ?_)
          · exact hHeld
          clear hK K
          refine wpAnyH_done (by kernel_rfl) ?_ _
          refine NoOut.normal ?_
          clear K13
          gi_wp2
          clear HG1 q7 s0 s1 s2 s3 hHeld
          have HG2 := Lib.hid (HG2.out hc1)
          have hrd := (HR4.out.below (below_drewN (Below.refl w4.heap.size w4) 1)).reads
          have hR5 := (HR4.out.below ((Below.refl w4.heap.size w4).alloc (Nat.le_refl _) (.cells #[.int .i64 (negM put)] 3))).below (below_drewN (Below.refl _ _) 1)
          change RunR _ (w4.alloc (.cells #[.int .i64 (negM put)] 3)).drew _ _ _ _ _ _ _ _ _ _ _ _ _ _ _ _ _ _ _ _ _ _ _ _ at hR5
          have hrA := row_one (w := w4) (negM put)
          have HR5 := Lib.hid hR5
          have HRA := Lib.hid hrA
          clear hR5 hrA
          refine wpIn_region_round (S := (fun W' => W'.cell? ⟨w.heap.size, 0, none⟩ = some (.pointer (some ⟨bt, 0, none⟩)) ∧ W'.cell? ⟨w.heap.size + 1, 0, none⟩ = some (.pointer (some ⟨bw, 0, none⟩)) ∧ W'.cell? ⟨bw, 3, none⟩ = some (.slice CA c'.length cc) ∧ W'.cell? ⟨b9, 0, none⟩ = some (.int .i64 lv))) (by kernel_rfl) (by kernel_rfl) hrd (fun hHeld => ?_)
          refine wpAnyH_take (i := 0) (v := .int .i64 put) rfl (by kernel_rfl) (by kernel_rfl) (by kernel_rfl) (fun _ _ _ h => h) (Or.inl ⟨by rfl, fun wS hSw => ?_⟩) (by assumption) ?_
          · go_simp
          try simp only [Act.put, List.setIfInBounds_toArray]
          refine wpAnyH_take (i := 3) (v := .pointer (some ⟨bw, 0, none⟩)) rfl (by kernel_rfl) (by kernel_rfl) (by kernel_rfl) (fun _ _ _ h => h) (Or.inl ⟨by rfl, fun wS hSw => ?_⟩) (by assumption) ?_
          · (obtain ⟨z0, z1, z2, z3⟩ := hSw; go_simp)
          try simp only [Act.put]
          refine wpAnyH_take (i := 4) (v := .pointer (some ⟨bw, 0, none⟩)) rfl (by kernel_rfl) (by kernel_rfl) (by kernel_rfl) (fun _ _ _ h => h) (Or.inl ⟨by rfl, fun wS hSw => ?_⟩) (by assumption) ?_
          · go_simp
          try simp only [Act.put]
          refine wpAnyH_take (i := 5) (v := .pointer (some ⟨bw, 3, none⟩)) rfl (by kernel_rfl) (by kernel_rfl) (by kernel_rfl) (fun _ _ _ h => h) (Or.inl ⟨by rfl, fun wS hSw => ?_⟩) (by assumption) ?_
          · go_simp
          try simp only [Act.put]
          refine wpAnyH_take (i := 6) (v := .slice CA c'.length cc) rfl (by kernel_rfl) (by kernel_rfl) (by kernel_rfl) (fun _ _ _ h => h) (Or.inl ⟨by rfl, fun wS hSw => ?_⟩) (by assumption) ?_
          · (obtain ⟨z0, z1, z2, z3⟩ := hSw; go_simp)
          try simp only [Act.put]
          refine wpAnyH_ready (rs := [1]) (by kernel_rfl) (by simp) ?_
          refine AllReadyH.cons rfl (fun K hK => ?_) AllReadyH.nil
          go_simp
          go_loud (refine (neg_ok put (by omega) (by omega) _).mono ?_)
          rintro e w5 ⟨rfl, rfl⟩
          refine hK.out _ _ ?_ (fun hHeld => ?_)
          · exact hHeld
          clear hK K
          refine wpAnyH_ready (rs := [2]) (by kernel_rfl) (by simp) ?_
          refine AllReadyH.cons rfl (fun K hK => ?_) AllReadyH.nil
          go_simp
          obtain ⟨w5, hw5⟩ : ∃ W, (w4.alloc (.cells #[.int .i64 (negM put)] 3)).drew = W := ⟨_, rfl⟩
          rw [hw5] at HR5 HRA ⊢
          clear hw5
          refine hK.out _ _ ?_ (fun hHeld => ?_)
          · exact HR5.out.reads
          clear hK K
          have K7 := within_ok 1 cc HRA.out HR5.out.wk.crow
          rw [show (!([negM put].any (outP c'))) = decide (negM put ∈ c') by simp [outP]] at K7
          refine wpAnyH_ready (rs := [7]) (by kernel_rfl) (by simp) ?_
          refine AllReadyH.cons rfl (fun K hK => ?_) AllReadyH.nil
          go_simp
          go_loud (refine K7.mono ?_)
          rintro e w6 ⟨rfl, hb6⟩
          have HR6 := Lib.hid (HR5.out.below hb6)
          clear hb6
          refine hK.out _ _ ?_ (fun hHeld => ?_)
          · exact HR6.out.reads
          clear hK K
          clear K7 HR5 HRA
          by_cases hin : negM put ∈ c'
          · have d14 : decide (negM put ∈ c') = true := decide_eq_true hin
            rw [d14] at HG2 ⊢
            refine wpAnyH_ready (rs := [8]) (by kernel_rfl) (by simp) ?_
            refine AllReadyH.cons rfl (fun K hK => ?_) AllReadyH.nil
            go_simp
            refine hK.out _ _ ?_ (fun hHeld => ?_)
            · exact hHeld
            clear hK K
            refine wpAnyH_ready (rs := [9]) (by kernel_rfl) (by simp) ?_
            refine AllReadyH.cons rfl (fun K hK => ?_) AllReadyH.nil
            go_simp
            refine hK.out _ _ ?_ (fun hHeld => ?_)
            · exact hHeld
            clear hK K
            refine wpAnyH_take (i := 10) (v := .pointer (some ⟨bt, 0, none⟩)) rfl (by kernel_rfl) (by kernel_rfl) (by kernel_rfl) (fun _ _ _ h => h) (Or.inl ⟨by rfl, fun wS hSw => ?_⟩) (by assumption) ?_
            · (obtain ⟨z0, z1, z2, z3⟩ := hSw; go_simp)
            try simp only [Act.put, List.setIfInBounds_toArray]
            refine wpAnyH_take (i := 11) (v := .int .i64 put) rfl (by kernel_rfl) (by kernel_rfl) (by kernel_rfl) (fun _ _ _ h => h) (Or.inl ⟨by rfl, fun wS hSw => ?_⟩) (by assumption) ?_
            · go_simp
            try simp only [Act.put]
            refine wpAnyH_take (i := 14) (v := .int .i64 lv) rfl (by kernel_rfl) (by kernel_rfl) (by kernel_rfl) (fun _ _ _ h => h) (Or.inl ⟨by rfl, fun wS hSw => ?_⟩) (by assumption) ?_
            · (obtain ⟨z0, z1, z2, z3⟩ := hSw; go_simp)
            try simp only [Act.put]
            refine wpAnyH_ready (rs := [12]) (by kernel_rfl) (by simp) ?_
            refine AllReadyH.cons rfl (fun K hK => ?_) AllReadyH.nil
            go_simp
            go_loud (refine (node_ok put _).mono ?_)
            rintro e w7 ⟨rfl, rfl⟩
            refine hK.out _ _ ?_ (fun hHeld => ?_)
            · exact hHeld
            clear hK K
            have K13 := level_T (HT.out.below HR6.out.kept) (put / 2)
            refine wpAnyH_ready (rs := [13]) (by kernel_rfl) (by simp) ?_
            refine AllReadyH.cons rfl (fun K hK => ?_) AllReadyH.nil
            go_simp
            go_loud (refine K13.mono ?_)
            rintro e w7 ⟨rfl, hb7⟩
            have HR7 := Lib.hid (HR6.out.below hb7)
            clear hb7
            refine hK.out _ _ ?_ (fun hHeld => ?_)
            · exact HR7.out.reads
            clear hK K
            clear K13 HR6
            rw [show levOf M put = levelOf M.L (put / 2) from rfl] at HG2
            generalize levelOf M.L (put / 2) = q at *
            by_cases hq : q = lv
            · have d15 : (q != lv) = false := by simp [hq]
              have d16 : (q == lv) = true := by simp [hq]
              rw [d16] at HG2
              clear hq d16
              refine wpAnyH_ready (rs := [15]) (by kernel_rfl) (by simp) ?_
              refine AllReadyH.cons rfl (fun K hK => ?_) AllReadyH.nil
              go_simp
              refine hK.out _ _ ?_ (fun hHeld => ?_)
              · exact hHeld
              clear hK K
              refine wpAnyH_ready (rs := [16]) (by kernel_rfl) (by simp) ?_
              refine AllReadyH.cons rfl (fun K hK => ?_) AllReadyH.nil
              go_simp
              refine hK.out _ _ ?_ (fun hHeld => ?_)
              · exact hHeld
              clear hK K
              refine wpAnyH_ready (rs := [17]) (by kernel_rfl) (by simp) ?_
              refine AllReadyH.cons rfl (fun K hK => ?_) AllReadyH.nil
              go_simp
              refine hK.out _ _ ?_ (fun hHeld => ?_)
              · exact hHeld
              clear hK K
              refine wpAnyH_done (by kernel_rfl) ?_ _
              refine NoOut.normal ?_
              gi_wp2
              have HG3 := Lib.hid (show G = match resolvesM M (rowsOf R) i put c' with | none => none | some q => goM M (rowsOf R) lv i q.1 (ch ++ [q.2]) by rw [HG2.out]; rfl)
              clear HG2 hHeld d15
              have K15 := resolves_fn (ch := ch) (kp := i) HR7.out.wk (HT.out.below HR7.out.kept) (HG.out.below HR7.out.kept) hR HE.out HM.out HPOS.out (by omega) (by omega) hin HR7.out.hs (by have := HFC.out.len; omega) (by omega)
              have hfr := fun qq h => HFC.out.resolves HOK.out (rows := rowsOf R) (kp := i) (put := put) (q := qq) h
              obtain ⟨o5, ho5⟩ : ∃ o, resolvesM M (rowsOf R) i put c' = o := ⟨_, rfl⟩
              rw [ho5] at HG3 K15 hfr
              have HFR := Lib.hid hfr
              clear ho5 hfr
              refine ⟨trivial, rfl, CallsIn.mono (F := Fence.wide) (callsIn_wide.2 K15) ?_⟩
              clear K15
              rintro e w8 (⟨rfl, rfl, hb8⟩ | ⟨qq, CA2, cc2, vh2, rfl, rfl, hwk8, hk8, haw8⟩)
              · have hr8 := HR7.out.below hb8
                have ha8 := hr8.at_
                have c6 := fun o => (ha8.alloc o).r6.cell 0
                have c7 := fun o => (ha8.alloc o).r7.cell 0
                have c8 := fun o => (ha8.alloc o).r8.cell 0
                have f6 := fun o => (ha8.alloc o).r6.frozen 0
                have f7 := fun o => (ha8.alloc o).r7.frozen 0
                have f8 := fun o => (ha8.alloc o).r8.frozen 0
                have hlt := ha8.lt
                simp only [List.getElem?_toArray, List.getElem?_cons_zero] at c6 c7 c8
                have HR8 := Lib.hid hr8
                clear hb8 hr8 ha8 HR7
                gi_wp2
                have o4 := HR8.out.at_.alloc (.cells #[.pointer none, .slice none 0 0, .map none, .slice none 0 0, .slice none 0 0] 102)
                have ho := Blk.new w8 102 #[.pointer none, .slice none 0 0, .map none, .slice none 0 0, .slice none 0 0]
                have hbo := (Below.refl w8.heap.size w8).alloc (Nat.le_refl _) (.cells #[.pointer none, .slice none 0 0, .map none, .slice none 0 0, .slice none 0 0] 102)
                have hbo2 := HR8.out.kept.trans (hbo.mono (by omega))
                have hlp := HR8.out.loop.kept (Kept.of_below (S := fun _ => False) hbo) (fun h => h) (fun h => h)
                have e9 := HR8.out.h9
                have em := HR8.out.hm
                have ew := HR8.out.hw
                have eb := HR8.out.h1
                have eD := HR8.out.hD
                have el := HR8.out.hl
                have es := HR8.out.hs
                have eH := HR8.out.hH
                generalize w8.alloc (.cells #[.pointer none, .slice none 0 0, .map none, .slice none 0 0, .slice none 0 0] 102) = wn at *
                generalize w8.heap.size = bz at *
                have o5 := ((o4.set6 (.pointer (some ⟨bz, 0, none⟩))).set7 0).set8 2
                have k5 : Kept (fun b => w.heap.size ≤ b ∧ b < w.heap.size + 4) wn _ := ((((Kept.refl _ wn).setCell (p := ⟨w.heap.size + 1, 0, none⟩) (.inl ⟨by simp, by simp⟩) (.pointer (some ⟨bz, 0, none⟩))).setCell (p := ⟨w.heap.size + 1 + 1, 0, none⟩) (.inl ⟨by simp; omega, by simp⟩) (.int .i64 0)).setCell (p := ⟨w.heap.size + 1 + 1 + 1, 0, none⟩) (.inl ⟨by simp; omega, by simp⟩) (.int .i64 2))
                generalize ((wn.setCell ⟨w.heap.size + 1, 0, none⟩ (.pointer (some ⟨bz, 0, none⟩))).setCell ⟨w.heap.size + 1 + 1, 0, none⟩ (.int .i64 0)).setCell ⟨w.heap.size + 1 + 1 + 1, 0, none⟩ (.int .i64 2) = w9 at *
                have l9 := hlp.kept k5 (by omega) (by omega)
                have ho9 := ho.kept k5 (by omega)
                have hb9 := hbo2.trans (k5.below (by have := o4.lt; omega) (fun k hk => hk.1))
                have kp := Kept.putObj w9 (b1 + 1 + 1) (.loop (doneRec r .ret))
                refine ⟨_, _, l9.stop_ .ret, .inr ⟨rfl, .inr ⟨bz, l9.put _, o5.kept kp (fun k h1 h2 => by omega), ho9.kept kp (by omega), hb9.trans (kp.below (by have := o5.lt; omega) (fun k hk => by omega)), HG3.out⟩⟩⟩
              · have HR8 := Lib.hid (HR7.out.res hk8 hwk8)
                have HAW8 := Lib.hid (show Away A w (b1 + 1 + 1 + 1) CA2 qq.1 from fun _ a ha => .inr (Nat.le_trans HR7.out.hs (haw8 a ha)))
                clear hk8 hwk8 haw8
                gi_wp2
                exact ⟨_, _, HR8.out.loop.end_ e5 e6, .inl ⟨rfl, CA2, cc2, qq.1, vh2, ch ++ [qq.2], HR8.out.put r, HG3.out.symm, HFR.out qq rfl, HAW8.out, by rw [List.length_append, List.length_singleton]; omega⟩⟩
            · have d15 : (q != lv) = true := by simp [hq]
              have d16 : (q == lv) = false := by simp [hq]
              rw [d16] at HG2
              have HG3 := Lib.hid (show G = goM M (rowsOf R) lv i c' ch by rw [HG2.out]; rfl)
              clear hq d16 HG2
              refine wpAnyH_ready (rs := [15]) (by kernel_rfl) (by simp) ?_
              refine AllReadyH.cons rfl (fun K hK => ?_) AllReadyH.nil
              go_simp
              refine hK.out _ _ ?_ (fun hHeld => ?_)
              · exact hHeld
              clear hK K
              refine wpAnyH_ready (rs := [16]) (by kernel_rfl) (by simp) ?_
              refine AllReadyH.cons rfl (fun K hK => ?_) AllReadyH.nil
              go_simp
              refine hK.out _ _ ?_ (fun hHeld => ?_)
              · exact hHeld
              clear hK K
              refine wpAnyH_ready (rs := [17]) (by kernel_rfl) (by simp) ?_
              refine AllReadyH.cons rfl (fun K hK => ?_) AllReadyH.nil
              go_simp
              refine hK.out _ _ ?_ (fun hHeld => ?_)
              · exact hHeld
              clear hK K
              refine wpAnyH_done (by kernel_rfl) ?_ _
              refine NoOut.normal ?_
              gi_wp2
              exact ⟨_, _, HR7.out.loop.end_ e5 e6, .inl ⟨rfl, CA, cc, c', vh, ch, HR7.out.put r, HG3.out.symm, HFC.out, HAW.out, by omega⟩⟩
          · have d14 : decide (negM put ∈ c') = false := decide_eq_false hin
            rw [d14] at HG2 ⊢
            have HG3 := Lib.hid (show G = goM M (rowsOf R) lv i c' ch by rw [HG2.out]; rfl)
            clear HG2
            refine wpAnyH_ready (rs := [8]) (by kernel_rfl) (by simp) ?_
            refine AllReadyH.cons rfl (fun K hK => ?_) AllReadyH.nil
            go_simp
            refine hK.out _ _ ?_ (fun hHeld => ?_)
            · exact hHeld
            clear hK K
            refine wpAnyH_ready (rs := [9]) (by kernel_rfl) (by simp) ?_
            refine AllReadyH.cons rfl (fun K hK => ?_) AllReadyH.nil
            go_simp
            refine hK.out _ _ ?_ (fun hHeld => ?_)
            · exact hHeld
            clear hK K
            refine wpAnyH_take (i := 10) (v := undef) rfl (by kernel_rfl) (by kernel_rfl) (by kernel_rfl) (fun _ _ _ h => h) (Or.inr ⟨by rfl, rfl⟩) (by assumption) ?_
            try simp only [Act.put, List.setIfInBounds_toArray]
            refine wpAnyH_take (i := 11) (v := undef) rfl (by kernel_rfl) (by kernel_rfl) (by kernel_rfl) (fun _ _ _ h => h) (Or.inr ⟨by rfl, rfl⟩) (by assumption) ?_
            try simp only [Act.put]
            refine wpAnyH_take (i := 14) (v := undef) rfl (by kernel_rfl) (by kernel_rfl) (by kernel_rfl) (fun _ _ _ h => h) (Or.inr ⟨by rfl, rfl⟩) (by assumption) ?_
            try simp only [Act.put]
            refine wpAnyH_ready (rs := [12]) (by kernel_rfl) (by simp) ?_
            refine AllReadyH.cons rfl (fun K hK => ?_) AllReadyH.nil
            go_simp
            refine hK.out _ _ ?_ (fun hHeld => ?_)
            · exact hHeld
            clear hK K
            refine wpAnyH_ready (rs := [13]) (by kernel_rfl) (by simp) ?_
            refine AllReadyH.cons rfl (fun K hK => ?_) AllReadyH.nil
            go_simp
            refine hK.out _ _ ?_ (fun hHeld => ?_)
            · exact hHeld
            clear hK K
            refine wpAnyH_ready (rs := [15]) (by kernel_rfl) (by simp) ?_
            refine AllReadyH.cons rfl (fun K hK => ?_) AllReadyH.nil
            go_simp
            refine hK.out _ _ ?_ (fun hHeld => ?_)
            · exact hHeld
            clear hK K
            refine wpAnyH_ready (rs := [16]) (by kernel_rfl) (by simp) ?_
            refine AllReadyH.cons rfl (fun K hK => ?_) AllReadyH.nil
            go_simp
            refine hK.out _ _ ?_ (fun hHeld => ?_)
            · exact hHeld
            clear hK K
            refine wpAnyH_ready (rs := [17]) (by kernel_rfl) (by simp) ?_
            refine AllReadyH.cons rfl (fun K hK => ?_) AllReadyH.nil
            go_simp
            refine hK.out _ _ ?_ (fun hHeld => ?_)
            · exact hHeld
            clear hK K
            refine wpAnyH_done (by kernel_rfl) ?_ _
            refine NoOut.normal ?_
            gi_wp2
            exact ⟨_, _, HR6.out.loop.end_ e5 e6, .inl ⟨rfl, CA, cc, c', vh, ch, HR6.out.put r, HG3.out.symm, HFC.out, HAW.out, by omega⟩⟩
      · refine ⟨A, cap, c, .slice none 0 0, [], HX0.out, ?_, HF.out, HC.out.away _, ?_⟩
        · rw [hlits, hG]
        · rw [hlits]; simp
      · have e5 := congrArg Loop.state hr
        have e6 := congrArg Loop.pending hr
        simp only [loopRec] at e5 e6
        clear hr
        have HGG := Lib.hid hG
        clear hG HX0 HRL HRL2 HKM hs3
        rintro e W' ⟨rfl, hcase⟩
        have hcase2 : (∃ rl pend CA cc c' vh ch, RunR w (W'.putObj (b1 + 1 + 1) (.loop rl)) (b1 + 1 + 1 + 1) (b1 + 1 + 1) (b1 + 1) b1 bt b9 bw bm rl lv LA R.length cl M CA cc c' vh ch LL cl4 (.pointer (some ⟨bw, 0, none⟩)) 0 0 ∧ Away A w (b1 + 1 + 1 + 1) CA c' ∧ G = some (c', ch) ∧ (Instr.endLoop (b1 + 1 + 1)).run Tryz.prog W' = .ok pend (W'.putObj (b1 + 1 + 1) (.loop rl)) ∧ (pend = none ∨ pend = some (.exit 2))) ∨
            (∃ rl bz, LoopAt (W'.putObj (b1 + 1 + 1) (.loop rl)) (b1 + 1 + 1) (b1 + 1) rl ∧ RunAt (W'.putObj (b1 + 1 + 1) (.loop rl)) w.heap.size bt (.pointer (some ⟨bz, 0, none⟩)) 0 2 ∧ Blk (W'.putObj (b1 + 1 + 1) (.loop rl)) bz 102 #[.pointer none, .slice none 0 0, .map none, .slice none 0 0, .slice none 0 0] ∧ Below w.heap.size w (W'.putObj (b1 + 1 + 1) (.loop rl)) ∧ G = none ∧ (Instr.endLoop (b1 + 1 + 1)).run Tryz.prog W' = .ok (some .ret) (W'.putObj (b1 + 1 + 1) (.loop rl))) := by
          rcases hcase with ⟨CA, cc, c', vh, ch, hR, hg, _, haw, _⟩ | ⟨CA, cc, c', vh, ch, hR, haw, hg⟩ | ⟨bz, hl, ha, hb, hk, hg⟩
          · exact .inl ⟨_, _, CA, cc, c', vh, ch, hR.put (overRec r), haw, by rw [← hg]; rfl, hR.loop.over_ e5 e6, .inl rfl⟩
          · exact .inl ⟨_, _, CA, cc, c', vh, ch, hR.put (overRec (doneRec r (.exit 2))), haw, hg, hR.loop.over_done, .inr rfl⟩
          · have kp := Kept.putObj W' (b1 + 1 + 1) (.loop (overRec (doneRec r .ret)))
            have hlt := ha.lt
            have hw9 : w.heap.size + 4 ≤ b1 := hwb
            exact .inr ⟨_, bz, hl.put _, ha.kept kp (fun k h1 h2 => by omega), hb.kept kp (fun e => by subst e; have := hl.rec_; unfold Blk at hb; rw [this] at hb; cases hb), hk.trans (kp.below hk.size (fun k hk => by omega)), hg, hl.over_done⟩
        clear hcase e5 e6
        rcases hcase2 with ⟨rl, pend, CA, cc, c', vh, ch, hR, haw, hg, hend, hp⟩ | ⟨rl, bz, hl, ha, hb, hk, hg, hend⟩
        · refine ⟨_, _, hend, ?_⟩
          have HR9 := Lib.hid hR
          have HAW := Lib.hid haw
          clear hR hend haw
          generalize W'.putObj (b1 + 1 + 1) (.loop rl) = W9 at *
          rcases hp with rfl | rfl
          · go_wp2
            have HRD := Lib.hid (HR9.out.below (below_drewN (Below.refl W9.heap.size W9) 1))
            have K17 := back_fn cc lv (HT.out.below HRD.out.kept) HRD.out.wk.crow
            refine wp_noOut ?_
            refine wp_region_held_drew (S := (fun W' => W'.cell? ⟨w.heap.size, 0, none⟩ = some (.pointer (some ⟨bt, 0, none⟩)) ∧ W'.cell? ⟨w.heap.size + 1, 0, none⟩ = some (.pointer (some ⟨bw, 0, none⟩)) ∧ W'.cell? ⟨bw, 3, none⟩ = some (.slice CA c'.length cc) ∧ W'.cell? ⟨b9, 0, none⟩ = some (.int .i64 lv))) (by kernel_rfl) HRD.out.reads (fun hHeld => ?_)
            refine wpAnyH_take (i := 0) (v := .pointer (some ⟨bw, 0, none⟩)) rfl (by kernel_rfl) (by kernel_rfl) (by kernel_rfl) (fun _ _ _ h => h) (Or.inl ⟨by rfl, fun wS hSw => ?_⟩) (by assumption) ?_
            · (obtain ⟨z0, z1, z2, z3⟩ := hSw; go_simp)
            try simp only [Act.put, List.setIfInBounds_toArray]
            refine wpAnyH_take (i := 1) (v := .pointer (some ⟨bt, 0, none⟩)) rfl (by kernel_rfl) (by kernel_rfl) (by kernel_rfl) (fun _ _ _ h => h) (Or.inl ⟨by rfl, fun wS hSw => ?_⟩) (by assumption) ?_
            · (obtain ⟨z0, z1, z2, z3⟩ := hSw; go_simp)
            try simp only [Act.put]
            refine wpAnyH_take (i := 2) (v := .pointer (some ⟨bw, 0, none⟩)) rfl (by kernel_rfl) (by kernel_rfl) (by kernel_rfl) (fun _ _ _ h => h) (Or.inl ⟨by rfl, fun wS hSw => ?_⟩) (by assumption) ?_
            · (obtain ⟨z0, z1, z2, z3⟩ := hSw; go_simp)
            try simp only [Act.put]
            refine wpAnyH_take (i := 3) (v := .pointer (some ⟨bw, 0, none⟩)) rfl (by kernel_rfl) (by kernel_rfl) (by kernel_rfl) (fun _ _ _ h => h) (Or.inl ⟨by rfl, fun wS hSw => ?_⟩) (by assumption) ?_
            · go_simp
            try simp only [Act.put]
            refine wpAnyH_take (i := 4) (v := .pointer (some ⟨bw, 3, none⟩)) rfl (by kernel_rfl) (by kernel_rfl) (by kernel_rfl) (fun _ _ _ h => h) (Or.inl ⟨by rfl, fun wS hSw => ?_⟩) (by assumption) ?_
            · go_simp
            try simp only [Act.put]
            refine wpAnyH_take (i := 5) (v := .slice CA c'.length cc) rfl (by kernel_rfl) (by kernel_rfl) (by kernel_rfl) (fun _ _ _ h => h) (Or.inl ⟨by rfl, fun wS hSw => ?_⟩) (by assumption) ?_
            · (obtain ⟨z0, z1, z2, z3⟩ := hSw; go_simp)
            try simp only [Act.put]
            refine wpAnyH_take (i := 6) (v := .int .i64 lv) rfl (by kernel_rfl) (by kernel_rfl) (by kernel_rfl) (fun _ _ _ h => h) (Or.inl ⟨by rfl, fun wS hSw => ?_⟩) (by assumption) ?_
            · (obtain ⟨z0, z1, z2, z3⟩ := hSw; go_simp)
            try simp only [Act.put]
            refine wpAnyH_ready (rs := [7]) (by kernel_rfl) (by simp) ?_
            refine AllReadyH.cons rfl (fun K hK => ?_) AllReadyH.nil
            go_simp
            go_loud (refine K17.mono ?_)
            rintro e w10 ⟨rfl, hb10⟩
            have HR10 := Lib.hid (HRD.out.below hb10)
            clear hb10
            refine hK.out _ _ ?_ (fun hHeld => ?_)
            · exact HR10.out.reads
            clear hK K
            clear K17 HRD
            generalize hbk : backN M c' lv = bk at *
            have cs8 := HR10.out.at_.r6.cell 0
            have fs8 := HR10.out.at_.r6.frozen 0
            simp only [List.getElem?_toArray, List.getElem?_cons_zero] at cs8
            have HR11 := Lib.hid (HR10.out.wrote HAW.out ((Kept.set1 _ (w.heap.size + 1) 0 (.pointer (some ⟨bw, 0, none⟩))).mono (fun k _ e => by omega)) (HR10.out.at_.set6 (.pointer (some ⟨bw, 0, none⟩))))
            refine wpAnyH_ready (rs := [8]) (by kernel_rfl) (by simp) ?_
            refine AllReadyH.cons rfl (fun K hK => ?_) AllReadyH.nil
            go_simp
            clear cs8 fs8
            refine hK.out _ _ ?_ (fun hHeld => ?_)
            · exact HR11.out.reads
            clear hK K
            generalize w10.setCell ⟨w.heap.size + 1, 0, none⟩ (.pointer (some ⟨bw, 0, none⟩)) = w11 at *
            have cs9 := HR11.out.at_.r7.cell 0
            have fs9 := HR11.out.at_.r7.frozen 0
            simp only [List.getElem?_toArray, List.getElem?_cons_zero] at cs9
            have HR12 := Lib.hid (HR11.out.wrote HAW.out ((Kept.set1 _ (w.heap.size + 1 + 1) 0 (.int .i64 bk)).mono (fun k _ e => by omega)) (HR11.out.at_.set7 bk))
            refine wpAnyH_ready (rs := [9]) (by kernel_rfl) (by simp) ?_
            refine AllReadyH.cons rfl (fun K hK => ?_) AllReadyH.nil
            go_simp
            clear cs9 fs9
            refine hK.out _ _ ?_ (fun hHeld => ?_)
            · exact HR12.out.reads
            clear hK K
            generalize w11.setCell ⟨w.heap.size + 1 + 1, 0, none⟩ (.int .i64 bk) = w12 at *
            have cs10 := HR12.out.at_.r8.cell 0
            have fs10 := HR12.out.at_.r8.frozen 0
            simp only [List.getElem?_toArray, List.getElem?_cons_zero] at cs10
            have HR13 := Lib.hid (HR12.out.wrote HAW.out ((Kept.set1 _ (w.heap.size + 1 + 1 + 1) 0 (.int .i64 0)).mono (fun k _ e => by omega)) (HR12.out.at_.set8 0))
            refine wpAnyH_ready (rs := [10]) (by kernel_rfl) (by simp) ?_
            refine AllReadyH.cons rfl (fun K hK => ?_) AllReadyH.nil
            go_simp
            clear cs10 fs10
            refine hK.out _ _ ?_ (fun hHeld => ?_)
            · exact HR13.out.reads
            clear hK K
            generalize w12.setCell ⟨w.heap.size + 1 + 1 + 1, 0, none⟩ (.int .i64 0) = w13 at *
            refine wpAnyH_done (by kernel_rfl) ?_ _
            refine NoOut.normal ?_
            clear HR9 HR10 HR11 HR12
            go_wp2
            have hlast := HR13.out.last HAW.out
            have y6 := hlast.1.r6.cell 0
            have y7 := hlast.1.r7.cell 0
            have y8 := hlast.1.r8.cell 0
            simp only [List.getElem?_toArray, List.getElem?_cons_zero] at y6 y7 y8
            refine ⟨by simp, .inl ⟨_, _, rfl, run_takeDeferred HR13.out.loop.def_, ?_⟩⟩
            refine ⟨.tuple #[.pointer (some ⟨bw, 0, none⟩), .int .i64 bk, .int .i64 0], by simp [results, Tryz.results68, go_sem, y6, y7, y8], ?_⟩
            rw [show o = some (c', bk, ch) by rw [HO.out, hg, ← hbk]]
            exact ⟨bw, CA, cc, vh, rfl, hlast.2.1.blk.lt, hlast.2.1.blk.cell 3, hlast.2.1.crow, hlast.2.1.nil, hlast.2.1.blk.cell 4, own_lower hlast.2.1.own hlast.2.2.2, hlast.2.2.1, fun h0 a ha => (HAW.out h0 a ha).imp (·.2) (Nat.le_trans hlast.2.2.2)⟩
          · show Code.wpIn Fence.wide 2 Tryz.prog (Code.exit 2) _ _ _
            gi_wp2
            go_wp2
            have HRD := Lib.hid (HR9.out.below (below_drewN (Below.refl W9.heap.size W9) 1))
            have K17 := back_fn cc lv (HT.out.below HRD.out.kept) HRD.out.wk.crow
            refine wp_noOut ?_
            refine wp_region_held_drew (S := (fun W' => W'.cell? ⟨w.heap.size, 0, none⟩ = some (.pointer (some ⟨bt, 0, none⟩)) ∧ W'.cell? ⟨w.heap.size + 1, 0, none⟩ = some (.pointer (some ⟨bw, 0, none⟩)) ∧ W'.cell? ⟨bw, 3, none⟩ = some (.slice CA c'.length cc) ∧ W'.cell? ⟨b9, 0, none⟩ = some (.int .i64 lv))) (by kernel_rfl) HRD.out.reads (fun hHeld => ?_)
            refine wpAnyH_take (i := 0) (v := .pointer (some ⟨bw, 0, none⟩)) rfl (by kernel_rfl) (by kernel_rfl) (by kernel_rfl) (fun _ _ _ h => h) (Or.inl ⟨by rfl, fun wS hSw => ?_⟩) (by assumption) ?_
            · (obtain ⟨z0, z1, z2, z3⟩ := hSw; go_simp)
            try simp only [Act.put, List.setIfInBounds_toArray]
            refine wpAnyH_take (i := 1) (v := .pointer (some ⟨bt, 0, none⟩)) rfl (by kernel_rfl) (by kernel_rfl) (by kernel_rfl) (fun _ _ _ h => h) (Or.inl ⟨by rfl, fun wS hSw => ?_⟩) (by assumption) ?_
            · (obtain ⟨z0, z1, z2, z3⟩ := hSw; go_simp)
            try simp only [Act.put]
            refine wpAnyH_take (i := 2) (v := .pointer (some ⟨bw, 0, none⟩)) rfl (by kernel_rfl) (by kernel_rfl) (by kernel_rfl) (fun _ _ _ h => h) (Or.inl ⟨by rfl, fun wS hSw => ?_⟩) (by assumption) ?_
            · (obtain ⟨z0, z1, z2, z3⟩ := hSw; go_simp)
            try simp only [Act.put]
            refine wpAnyH_take (i := 3) (v := .pointer (some ⟨bw, 0, none⟩)) rfl (by kernel_rfl) (by kernel_rfl) (by kernel_rfl) (fun _ _ _ h => h) (Or.inl ⟨by rfl, fun wS hSw => ?_⟩) (by assumption) ?_
            · go_simp
            try simp only [Act.put]
            refine wpAnyH_take (i := 4) (v := .pointer (some ⟨bw, 3, none⟩)) rfl (by kernel_rfl) (by kernel_rfl) (by kernel_rfl) (fun _ _ _ h => h) (Or.inl ⟨by rfl, fun wS hSw => ?_⟩) (by assumption) ?_
            · go_simp
            try simp only [Act.put]
            refine wpAnyH_take (i := 5) (v := .slice CA c'.length cc) rfl (by kernel_rfl) (by kernel_rfl) (by kernel_rfl) (fun _ _ _ h => h) (Or.inl ⟨by rfl, fun wS hSw => ?_⟩) (by assumption) ?_
            · (obtain ⟨z0, z1, z2, z3⟩ := hSw; go_simp)
            try simp only [Act.put]
            refine wpAnyH_take (i := 6) (v := .int .i64 lv) rfl (by kernel_rfl) (by kernel_rfl) (by kernel_rfl) (fun _ _ _ h => h) (Or.inl ⟨by rfl, fun wS hSw => ?_⟩) (by assumption) ?_
            · (obtain ⟨z0, z1, z2, z3⟩ := hSw; go_simp)
            try simp only [Act.put]
            refine wpAnyH_ready (rs := [7]) (by kernel_rfl) (by simp) ?_
            refine AllReadyH.cons rfl (fun K hK => ?_) AllReadyH.nil
            go_simp
            go_loud (refine K17.mono ?_)
            rintro e w10 ⟨rfl, hb10⟩
            have HR10 := Lib.hid (HRD.out.below hb10)
            clear hb10
            refine hK.out _ _ ?_ (fun hHeld => ?_)
            · exact HR10.out.reads
            clear hK K
            clear K17 HRD
            generalize hbk : backN M c' lv = bk at *
            have cs8 := HR10.out.at_.r6.cell 0
            have fs8 := HR10.out.at_.r6.frozen 0
            simp only [List.getElem?_toArray, List.getElem?_cons_zero] at cs8
            have HR11 := Lib.hid (HR10.out.wrote HAW.out ((Kept.set1 _ (w.heap.size + 1) 0 (.pointer (some ⟨bw, 0, none⟩))).mono (fun k _ e => by omega)) (HR10.out.at_.set6 (.pointer (some ⟨bw, 0, none⟩))))
            refine wpAnyH_ready (rs := [8]) (by kernel_rfl) (by simp) ?_
            refine AllReadyH.cons rfl (fun K hK => ?_) AllReadyH.nil
            go_simp
            clear cs8 fs8
            refine hK.out _ _ ?_ (fun hHeld => ?_)
            · exact HR11.out.reads
            clear hK K
            generalize w10.setCell ⟨w.heap.size + 1, 0, none⟩ (.pointer (some ⟨bw, 0, none⟩)) = w11 at *
            have cs9 := HR11.out.at_.r7.cell 0
            have fs9 := HR11.out.at_.r7.frozen 0
            simp only [List.getElem?_toArray, List.getElem?_cons_zero] at cs9
            have HR12 := Lib.hid (HR11.out.wrote HAW.out ((Kept.set1 _ (w.heap.size + 1 + 1) 0 (.int .i64 bk)).mono (fun k _ e => by omega)) (HR11.out.at_.set7 bk))
            refine wpAnyH_ready (rs := [9]) (by kernel_rfl) (by simp) ?_
            refine AllReadyH.cons rfl (fun K hK => ?_) AllReadyH.nil
            go_simp
            clear cs9 fs9
            refine hK.out _ _ ?_ (fun hHeld => ?_)
            · exact HR12.out.reads
            clear hK K
            generalize w11.setCell ⟨w.heap.size + 1 + 1, 0, none⟩ (.int .i64 bk) = w12 at *
            have cs10 := HR12.out.at_.r8.cell 0
            have fs10 := HR12.out.at_.r8.frozen 0
            simp only [List.getElem?_toArray, List.getElem?_cons_zero] at cs10
            have HR13 := Lib.hid (HR12.out.wrote HAW.out ((Kept.set1 _ (w.heap.size + 1 + 1 + 1) 0 (.int .i64 0)).mono (fun k _ e => by omega)) (HR12.out.at_.set8 0))
            refine wpAnyH_ready (rs := [10]) (by kernel_rfl) (by simp) ?_
            refine AllReadyH.cons rfl (fun K hK => ?_) AllReadyH.nil
            go_simp
            clear cs10 fs10
            refine hK.out _ _ ?_ (fun hHeld => ?_)
            · exact HR13.out.reads
            clear hK K
            generalize w12.setCell ⟨w.heap.size + 1 + 1 + 1, 0, none⟩ (.int .i64 0) = w13 at *
            refine wpAnyH_done (by kernel_rfl) ?_ _
            refine NoOut.normal ?_
            clear HR9 HR10 HR11 HR12
            go_wp2
            have hlast := HR13.out.last HAW.out
            have y6 := hlast.1.r6.cell 0
            have y7 := hlast.1.r7.cell 0
            have y8 := hlast.1.r8.cell 0
            simp only [List.getElem?_toArray, List.getElem?_cons_zero] at y6 y7 y8
            refine ⟨by simp, .inl ⟨_, _, rfl, run_takeDeferred HR13.out.loop.def_, ?_⟩⟩
            refine ⟨.tuple #[.pointer (some ⟨bw, 0, none⟩), .int .i64 bk, .int .i64 0], by simp [results, Tryz.results68, go_sem, y6, y7, y8], ?_⟩
            rw [show o = some (c', bk, ch) by rw [HO.out, hg, ← hbk]]
            exact ⟨bw, CA, cc, vh, rfl, hlast.2.1.blk.lt, hlast.2.1.blk.cell 3, hlast.2.1.crow, hlast.2.1.nil, hlast.2.1.blk.cell 4, own_lower hlast.2.1.own hlast.2.2.2, hlast.2.2.1, fun h0 a ha => (HAW.out h0 a ha).imp (·.2) (Nat.le_trans hlast.2.2.2)⟩
        · refine ⟨some .ret, _, hend, ?_⟩
          generalize W'.putObj (b1 + 1 + 1) (.loop rl) = W9 at *
          show Code.wpIn Fence.wide 2 Tryz.prog Code.ret _ _ _
          gi_wp2
          have hlt := ha.lt
          have kp := Kept.putObj W9 (b1 + 1) (.deferred none)
          have ha2 := ha.kept kp (fun k h1 h2 => by omega)
          have hb2 := hb.kept kp (fun e => by subst e; have := hl.def_; unfold Blk at hb; rw [this] at hb; cases hb)
          have hk2 := hk.trans (kp.below hk.size (fun k hk => by omega))
          have y6 := ha2.r6.cell 0
          have y7 := ha2.r7.cell 0
          have y8 := ha2.r8.cell 0
          simp only [List.getElem?_toArray, List.getElem?_cons_zero] at y6 y7 y8
          refine ⟨by simp, .inl ⟨_, _, rfl, run_takeDeferred hl.def_, ?_⟩⟩
          refine ⟨.tuple #[.pointer (some ⟨bz, 0, none⟩), .int .i64 0, .int .i64 2], by simp [results, Tryz.results68, go_sem, y6, y7, y8], ?_⟩
          rw [show o = none by rw [HO.out, hg]]
          exact RunPost.low hb2 hk2
end Go.Proofs.YtmbekchnfbmhbaaGreat

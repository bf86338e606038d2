/- Run. -/
import Derived.Test.YthnakfdiikidaaaUnC
import Derived.WalkMore
namespace Go.Proofs.Ythnakfdiikidaaa
open Go.RowKit Go.Lib

theorem small_nodup : ∀ (N : Nat) (l : List Nat), l.Nodup → (∀ x ∈ l, x < N) → l.length ≤ N
  | 0, [], _, _ => Nat.le_refl _
  | 0, x :: _, _, h => absurd (h x List.mem_cons_self) (Nat.not_lt_zero _)
  | N + 1, l, hn, h => by
    have h1 := small_nodup N (l.erase N) (hn.erase N) fun x hx => by
      have := (hn.mem_erase_iff).1 hx
      have := h x this.2
      omega
    rw [List.length_erase] at h1
    split at h1 <;> omega
theorem LitsOk.len {lits : List Int} (h : LitsOk lits) : lits.length ≤ 524289 := by
  have h1 := small_nodup 524289 (lits.map fun x => (x / 2).toNat) (by
    refine List.pairwise_map.2 (List.Pairwise.imp_of_mem ?_ h.dis)
    intro a b ha hb hne e
    have := h.rng a ha
    have := h.rng b hb
    omega) (fun x hx => by
    obtain ⟨y, hy, rfl⟩ := List.mem_map.1 hx
    have := h.rng y hy
    omega)
  rw [List.length_map] at h1
  exact h1
theorem VV.row {w : World} {B g : Nat} {va : Value} {A : List Int} (h : VV w B g va A) (hl : A.length ≤ 1000000) : ∃ AA cap, va = .slice AA A.length cap ∧ Row .i8 w AA A := by
  rcases h.own.2 with ⟨rfl, h0⟩ | ⟨ga, cap, cur, rfl, hb, hh, hc, hM, hs, ht⟩
  · exact ⟨none, 0, by rw [h0], hl, .inl h0⟩
  · refine ⟨_, cap, rfl, hl, .inr ⟨ga, 0, rfl, (Array.getElem?_eq_some_iff.1 hh).1, fun i hi => ?_⟩⟩
    rw [Nat.zero_add]
    exact h.cell hi
theorem own_grown {w w' : World} {base n : Nat} {e : TypeId} {size : Nat} {v : Value} {xs : List Value} {row : Option Nat} (h : w.ownsRow base e size v n xs) (hg : w.grownBy w' row) (hne : ∀ g, v.ownBlock = some g → some g ≠ row) : w'.ownsRow base e size v n xs := by
  refine ⟨h.1, ?_⟩
  rcases h.2 with hn | ⟨g, cap, cur, rfl, hb, hgg, rest⟩
  · exact .inl hn
  · refine .inr ⟨g, cap, cur, rfl, hb, ?_, rest⟩
    rw [hg.block g (Array.getElem?_eq_some_iff.1 hgg).1 (hne g rfl)]
    exact hgg
/-- The run's state: values, and what was put. -/
structure Runs (w1 wr : World) (g : Nat) (vl va : Value) (A lits : List Int) : Prop where
  vv : VV wr w1.heap.size g va A
  rep : Rep A lits
  ok : LitsOk lits
  most : A.length ≤ 600000
  own : wr.ownsRow w1.heap.size 3 1 vl lits.length (lits.map (Value.int .i64))
  bel : Below w1.heap.size w1 wr
theorem Runs.start (w1 : World) : Runs w1 (w1.alloc (.cells #[.slice none 0 0] 61)) w1.heap.size (.slice none 0 0) (.slice none 0 0) [] [] :=
  ⟨⟨Blk.new w1 _ _, World.ownsRow_nil _ _ _ _, Nat.le_refl _⟩, (fun n => by simp [valL]), LitsOk.nil, by simp, World.ownsRow_nil _ _ _ _, (Below.refl _ w1).alloc (Nat.le_refl _) _⟩
theorem Runs.put {w1 wr w2 : World} {g q : Nat} {vl va va' : Value} {A A' lits lits' : List Int} (h : Runs w1 wr g vl va A lits) (hs : SetPost wr w2 w1.heap.size g va A lits' va' A' q) (hq : q ≤ 524288) :
    w2.ownsRow w1.heap.size 3 1 vl lits.length (lits.map (Value.int .i64)) ∧ Below w1.heap.size w1 w2 ∧ VV w2 w1.heap.size g va' A' ∧ Rep A' lits' ∧ A'.length ≤ 600000 := by
  have hk := hs.kept
  refine ⟨own_kept h.own hk fun b hb => ?_, h.bel.trans (hk.below h.bel.size fun k hk' => ?_), hs.vv, hs.rep, ?_⟩
  · rintro (e | e)
    · exact own_blk_ne h.own h.vv.blk (by decide) (by rw [hb, e])
    · exact own_own_ne h.vv.own h.own (by decide) e hb
  · rcases hk' with e | e
    · rw [e]; exact h.vv.low
    · exact (h.vv.own.lt k e).1
  · rcases hs.most with e | e
    · have := h.most; omega
    · omega
theorem Runs.push {w1 w2 w3 : World} {g : Nat} {vl vl' va' : Value} {A' lits : List Int} {x : Int} (hv : VV w2 w1.heap.size g va' A') (hr : Rep A' (lits ++ [x])) (hok : LitsOk (lits ++ [x])) (hm : A'.length ≤ 600000) (hb : Below w1.heap.size w1 w2)
    (ho : w2.ownsRow w1.heap.size 3 1 vl lits.length (lits.map (Value.int .i64))) (cs : Array Value) (hg : (w2.alloc (.cells cs 3)).grownBy w3 vl.ownBlock)
    (ho' : w3.ownsRow w1.heap.size 3 1 vl' (lits.length + 1) (lits.map (Value.int .i64) ++ [.int .i64 x])) : Runs w1 w3 g vl' va' A' (lits ++ [x]) := by
  have ho1 := ho.alloc (.cells cs 3)
  have hb1 := hv.blk.alloc (.cells cs 3)
  have hv1 := hv.own.alloc (.cells cs 3)
  refine ⟨⟨hb1.grown hg (fun e => own_blk_ne ho1 hb1 (by decide) e.symm), own_grown hv1 hg (fun b hb' e => own_own_ne hv1 ho1 (by decide) hb' e.symm), hv.low⟩, hr, hok, hm, ?_, Below.grown (hb.alloc hb.size _) hg (Nat.le_trans hb.size (by simp)) (fun k hk => (ho.lt k hk).1)⟩
  rw [List.map_append, List.length_append]
  exact ho'

set_option maxRecDepth 100000 in
set_option maxHeartbeats 4000000 in
theorem run_ok {w : World} {A : Option Addr} {rows : List (Option Addr × Nat × List Int)} {GA : Option Addr} {given : List Int} (cap capg : Nat) (h : Grid w A rows) (k : Row .i64 w GA given) (hm : ∀ x ∈ given, x ≤ 9223372036854775807) :
    Calls Try.prog 36 #[.slice A rows.length cap, .slice GA given.length capg] w fun e w' => ∃ v, e = .returned (.tuple #[v, .int .i64 (runM (rowsOf rows) given).2]) ∧ w'.ownsRow w.heap.size 3 1 v (runM (rowsOf rows) given).1.length ((runM (rowsOf rows) given).1.map (Value.int .i64)) ∧ Below w.heap.size w w' := by
  have hlen := h.len
  have hgl := k.len
  obtain ⟨i0, hi, hz0, hz1, hz2⟩ := info_parts int_info
  have H := Lib.hid h
  have K := Lib.hid k
  have Hm := Lib.hid hm
  clear h k hm
  go_enter Try.func36, Try.ntmps36
  go_wp2
  go_step3
  go_wp2_with (go_at_call 42; (with_reducible refine (plain_ok cap H.out).mono ?_); rintro e w1 ⟨R, RB, rfl, hRl, hRg, hRi, hb1⟩; have HRl := Lib.hid hRl; have HRg := Lib.hid hRg; have HRi := Lib.hid hRi; have Hb1 := Lib.hid hb1; clear hRl hRg hRi hb1)
  go_loopg [18, 4] given.length (fun n vi vl wr => ∃ (i : Nat) (va : Value) (AA lits : List Int), i + n = given.length ∧ vi = .int .i64 i ∧ Runs w1 wr w1.heap.size vl va AA lits ∧ givenM (given.drop i) lits = givenM given [])
  case atStart => exact ⟨0, _, _, _, by omega, rfl, Runs.start w1, rfl⟩
  case round =>
    obtain ⟨i, va, AA, lits, hig, rfl, hR, hinv⟩ := hrel
    cases gk with
    | succ n =>
      have hin : i < given.length := by omega
      have d1 : decide ((i : Int) < given.length) = true := by simp; omega
      have hKr := K.out.below (Hb1.out.trans (hR.bel.mono Hb1.out.size))
      obtain ⟨b, off, hA, hb, hcell⟩ := hKr.at_.resolve_left (by omega)
      subst hA
      have c0 := hcell i hin
      have hx := Hm.out given[i] (List.getElem_mem hin)
      have hdr : givenM (given.drop i) lits = givenM (given[i] :: given.drop (i + 1)) lits := by rw [← List.drop_eq_getElem_cons hin]
      rw [hinv] at hdr
      have Hdr := Lib.hid hdr
      have HR := Lib.hid hR
      have y0 : wr.cell? ⟨w1.heap.size, 0, none⟩ = some va := hR.vv.blk.cell 0
      obtain ⟨AAd, cap2, rfl, hrowA⟩ := hR.vv.row (by have := hR.most; omega)
      clear hcell hdr hinv hR hKr hb
      generalize given[i] = x at *
      have Kw := wide_ok x wr
      by_cases hw : wideM x = true
      · rw [hw] at Kw
        have Hg := Lib.hid (show givenM (x :: given.drop (i + 1)) lits = givenM (given.drop (i + 1)) lits by conv => lhs; unfold givenM; rw [if_pos hw])
        clear hw hrowA
        go_wp2_with (go_at_call 43; (with_reducible refine Kw.mono ?_); rintro e w2 ⟨rfl, rfl⟩)
        go_roundg n
        case measure => omega
        case rel => exact ⟨i + 1, _, AA, lits, by omega, by go_num, HR.out, by rw [← Hg.out, ← Hdr.out]⟩
      have hwf : wideM x = false := by simpa using hw
      have hxr := (wide_iff x).1 hwf
      rw [hwf] at Kw
      have Kv := val_ok cap2 hrowA x hx
      rw [rep_val HR.out.rep HR.out.ok hxr.1] at Kv
      have Hxr := Lib.hid hxr
      have hxr1 := hxr.1
      have Hw := Lib.hid hw
      have Hwf := Lib.hid hwf
      clear hw hwf hrowA hxr
      by_cases h1 : valL lits x = 1
      · rw [h1] at Kv
        have Hg := Lib.hid (show givenM (x :: given.drop (i + 1)) lits = givenM (given.drop (i + 1)) lits by conv => lhs; unfold givenM; rw [if_neg Hw.out, if_pos h1])
        clear h1
        go_wp2_with (first
          | (go_at_call 43; (with_reducible refine Kw.mono ?_); rintro e w2 ⟨rfl, rfl⟩)
          | (go_at_call 44; (with_reducible refine Kv.mono ?_); rintro e w2 ⟨rfl, rfl⟩))
        go_roundg n
        case measure => omega
        case rel => exact ⟨i + 1, _, AA, lits, by omega, by go_num, HR.out, by rw [← Hg.out, ← Hdr.out]⟩
      obtain ⟨q, hq⟩ : ∃ q : Nat, x / 2 = q := ⟨(x / 2).toNat, by omega⟩
      have Ks := set_ok HR.out.vv HR.out.rep hq hxr1 Hxr.out.2 HR.out.most
      have Hq := Lib.hid (show q ≤ 524288 by have := Hxr.out.2; omega)
      clear hq hxr1
      by_cases h2 : valL lits x = 2
      · rw [h2] at Kv
        rw [show decide (valL lits x = 0) = false from decide_eq_false (by rw [h2]; decide)] at Ks
        have Hg := Lib.hid (show givenM (x :: given.drop (i + 1)) lits = (lits, false) by conv => lhs; unfold givenM; rw [if_neg Hw.out, if_neg h1, if_pos h2])
        have H2 := Lib.hid h2
        clear h1 h2
        go_wp2_with (first
          | (go_at_call 43; (with_reducible refine Kw.mono ?_); rintro e w2 ⟨rfl, rfl⟩)
          | (go_at_call 44; (with_reducible refine Kv.mono ?_); rintro e w2 ⟨rfl, rfl⟩)
          | (go_at_call 45; (with_reducible refine Ks.mono ?_); rintro e w2 ⟨rfl, va', A', hs, _⟩; have HS := Lib.hid (HR.out.put hs Hq.out); clear hs))
        rw [Exit.noGoto_ret]
        go_ret2
        have hf : givenM given [] = (lits, false) := by rw [Hdr.out, Hg.out]
        have hrun : runM (rowsOf rows) given = (lits, -2) := by unfold runM; rw [hf]; rfl
        rw [hrun]
        exact ⟨u4, rfl, own_base HS.out.1 (fun g hg => Nat.le_trans Hb1.out.size (HS.out.1.lt g hg).1), Hb1.out.trans (HS.out.2.1.mono Hb1.out.size)⟩
      · have h0 : valL lits x = 0 := by rcases valL_cases lits x with e | e | e <;> simp_all
        rw [h0] at Kv
        rw [show decide (valL lits x = 0) = true from decide_eq_true h0, show afterSet lits x = lits ++ [x] by unfold afterSet; rw [if_pos h0]] at Ks
        have Hg := Lib.hid (show givenM (x :: given.drop (i + 1)) lits = givenM (given.drop (i + 1)) (lits ++ [x]) by conv => lhs; unfold givenM; rw [if_neg Hw.out, if_neg h1, if_neg h2])
        have Hok := Lib.hid (HR.out.ok.push Hxr.out h0)
        clear h0 h1 h2
        have X1 := Lib.hid (show (lits.length + 1) * 8 ≤ 140737488355328 by have := HR.out.ok.len; omega)
        go_wp2_with (first
          | (go_at_call 43; (with_reducible refine Kw.mono ?_); rintro e w2 ⟨rfl, rfl⟩)
          | (go_at_call 44; (with_reducible refine Kv.mono ?_); rintro e w2 ⟨rfl, rfl⟩)
          | (go_at_call 45; (with_reducible refine Ks.mono ?_); rintro e w2 ⟨rfl, va', A', hs, _⟩; have HS := Lib.hid (HR.out.put hs Hq.out); clear hs)
          | (at_builtin; refine list_push _ rfl (.tmp 38) (.tmp 40) 28 rfl w1.heap.size 3 i0 (.int .i64 0) 1 8 Try.underlying28 hi hz0 hz1 hz2 rfl (by decide) _ lits.length (lits.map (Value.int .i64)) rfl (HS.out.1.alloc _) w2.heap.size #[.int .i64 x] rfl (Blk.new w2 _ _) rfl (by intro u hu; rw [List.mem_singleton.1 hu]; rfl) X1.out (by decide) HS.out.2.1.size ?_; intro ga ca w3 ho3 hg3 _ _; have HO3 := Lib.hid ho3; have HG3 := Lib.hid hg3; clear ho3 hg3))
        go_roundg n
        case measure => omega
        case rel => exact ⟨i + 1, va', A', lits ++ [x], by omega, by go_num, Runs.push HS.out.2.2.1 HS.out.2.2.2.1 Hok.out HS.out.2.2.2.2 HS.out.2.1 HS.out.1 _ HG3.out HO3.out, by rw [← Hg.out, ← Hdr.out]⟩
    | zero =>
      obtain rfl : i = given.length := by omega
      have d1 : decide ((given.length : Int) < given.length) = false := by simp
      rw [List.drop_length] at hinv
      have hgm : givenM given [] = (lits, true) := hinv.symm
      have Hgm := Lib.hid hgm
      have HR := Lib.hid hR
      clear hinv hgm hR
      have hpl : ∀ r ∈ R, ∀ x ∈ r.2.2, 0 ≤ x ∧ x ≤ 1048576 := by
        intro r hr x hx
        have : r.2.2 ∈ rowsOf R := List.mem_map.2 ⟨r, hr, rfl⟩
        rw [HRi.out] at this
        obtain ⟨c, _, hc⟩ := List.mem_map.1 this
        rw [← hc] at hx
        exact plain_rng hx
      have Hpl := Lib.hid hpl
      have hfin : runM (rowsOf rows) given = runL (rowsOf R) lits := by unfold runM; rw [Hgm.out, HRi.out]; rfl
      have Hfin := Lib.hid hfin
      clear hpl hfin
      go_wp2
      go_step3
      go_wp2
      go_loopg [4] (openN (rowsOf R) lits) (fun n vl wx => ∃ (va : Value) (AA lits2 : List Int), Runs w1 wx w1.heap.size vl va AA lits2 ∧ openN (rowsOf R) lits2 ≤ n ∧ runL (rowsOf R) lits2 = runL (rowsOf R) lits)
      case atStart => exact ⟨va, AA, lits, HR.out, Nat.le_refl _, rfl⟩
      case round =>
        obtain ⟨va2, A2, lits2, hR2, hop, hinv⟩ := hrel
        obtain ⟨AAd, cap2, rfl, hrowA⟩ := hR2.vv.row (by have := hR2.most; omega)
        have K1 := look_ok (val := valL lits2) rows.length cap2 (HRg.out.below hR2.bel) hrowA (fun r hr x hx => rep_val hR2.rep hR2.ok (Hpl.out r hr x hx).1) (fun r hr x hx => by have := Hpl.out r hr x hx; omega)
        have hc := look_cases (valL lits2) (rowsOf R)
        have hrl := runL.eq_1 (rowsOf R) lits2
        rw [hinv, ← Hfin.out] at hrl
        have y0 : wr.cell? ⟨w1.heap.size, 0, none⟩ = some (.slice AAd A2.length cap2) := hR2.vv.blk.cell 0
        have HR2 := Lib.hid hR2
        have Hop := Lib.hid hop
        generalize hlk : lookF (valL lits2) (rowsOf R) 0 (-1) 0 = p at K1 hc hrl
        obtain ⟨p1, p2, p3⟩ := p
        clear hR2 hop hinv hrowA hlk
        simp only at K1 hc hrl
        rcases hc with ⟨h0, _⟩ | ⟨h1, h2, _⟩ | ⟨h1, h2, _, c, hcm, hpc, hpv, _⟩
        · rw [if_pos h0] at hrl
          have b1 : (p1 != -1) = true := by simp; omega
          have Hrl := Lib.hid hrl
          clear hrl h0
          go_wp2_with (go_at_call 46; (with_reducible refine K1.mono ?_); rintro e w2 ⟨rfl, rfl⟩)
          rw [Exit.noGoto_ret]
          go_ret2
          rw [Hrl.out]
          exact ⟨_, rfl, own_base HR2.out.own (fun g hg => Nat.le_trans Hb1.out.size (HR2.out.own.lt g hg).1), Hb1.out.trans (HR2.out.bel.mono Hb1.out.size)⟩
        · subst h1 h2
          rw [if_neg (by decide), if_pos rfl] at hrl
          have Hrl := Lib.hid hrl
          clear hrl
          go_wp2_with (go_at_call 46; (with_reducible refine K1.mono ?_); rintro e w2 ⟨rfl, rfl⟩)
          rw [Exit.noGoto_ret]
          go_ret2
          rw [Hrl.out]
          exact ⟨_, rfl, own_base HR2.out.own (fun g hg => Nat.le_trans Hb1.out.size (HR2.out.own.lt g hg).1), Hb1.out.trans (HR2.out.bel.mono Hb1.out.size)⟩
        · subst h1
          rw [if_neg (by decide), if_neg h2] at hrl
          have b2 : (p2 == -1) = false := beq_eq_false_iff_ne.2 h2
          obtain ⟨r, hr, hrc⟩ := List.mem_map.1 hcm
          have hp3 := Hpl.out r hr p3 (by rw [hrc]; exact hpc)
          obtain ⟨q, hq⟩ : ∃ q : Nat, p3 / 2 = q := ⟨(p3 / 2).toNat, by omega⟩
          have Ks := set_ok HR2.out.vv HR2.out.rep hq hp3.1 hp3.2 HR2.out.most
          rw [show decide (valL lits2 p3 = 0) = true from decide_eq_true hpv, show afterSet lits2 p3 = lits2 ++ [p3] by unfold afterSet; rw [if_pos hpv]] at Ks
          have Hq := Lib.hid (show q ≤ 524288 by have := hp3.2; omega)
          have Hrl := Lib.hid hrl
          have Hok := Lib.hid (HR2.out.ok.push hp3 hpv)
          have Hdec := Lib.hid (openN_push hcm hpc hpv)
          have X1 := Lib.hid (show (lits2.length + 1) * 8 ≤ 140737488355328 by have := HR2.out.ok.len; omega)
          clear hrl h2 hpv hcm hpc hr hrc hq hp3
          obtain ⟨n, hn⟩ : ∃ n, gk = n + 1 := ⟨gk - 1, by have := Hdec.out; have := Hop.out; omega⟩
          subst hn
          go_wp2_with (first
            | (go_at_call 46; (with_reducible refine K1.mono ?_); rintro e w2 ⟨rfl, rfl⟩)
            | (go_at_call 45; (with_reducible refine Ks.mono ?_); rintro e w2 ⟨rfl, va', A', hs, _⟩; have HS := Lib.hid (HR2.out.put hs Hq.out); clear hs)
            | (at_builtin; refine list_push _ rfl (.tmp 64) (.tmp 66) 28 rfl w1.heap.size 3 i0 (.int .i64 0) 1 8 Try.underlying28 hi hz0 hz1 hz2 rfl (by decide) _ lits2.length (lits2.map (Value.int .i64)) rfl (HS.out.1.alloc _) w2.heap.size #[.int .i64 p3] rfl (Blk.new w2 _ _) rfl (by intro u hu; rw [List.mem_singleton.1 hu]; rfl) X1.out (by decide) HS.out.2.1.size ?_; intro ga ca w3 ho3 hg3 _ _; have HO3 := Lib.hid ho3; have HG3 := Lib.hid hg3; clear ho3 hg3))
          go_roundg n
          case measure => omega
          case rel => exact ⟨va', A', lits2 ++ [p3], Runs.push HS.out.2.2.1 HS.out.2.2.2.1 Hok.out HS.out.2.2.2.2 HS.out.2.1 HS.out.1 _ HG3.out HO3.out, by have := Hdec.out; have := Hop.out; omega, by rw [← Hrl.out, Hfin.out]⟩
end Go.Proofs.Ythnakfdiikidaaa

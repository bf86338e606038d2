/- The reference's side (L16/Un L17/UnY), for layer 21's seat. -/
import Derived.Test.YtmbekchnfbmhbaaGreatRfF
namespace Go.Proofs.YtmbekchnfbmhbaaGreat
section
open Go.RowKit Go.Lib
structure Runs16 (w1 wr : World) (vl va : Value) (A lits : List Int) : Prop where
  own : wr.ownsRow w1.heap.size 3 1 vl lits.length (lits.map (Value.int .i64))
  av : AV wr w1.heap.size va A
  rep : Rep A lits
  ok : LitsOk lits
  most : A.length ≤ 600001
  bel : Below w1.heap.size w1 wr
theorem Runs16.start (w1 : World) : Runs16 w1 w1 (.slice none 0 0) (.slice none 0 0) [] [] :=
  ⟨World.ownsRow_nil _ _ _ _, World.ownsRow_nil _ _ _ _, (fun n => by simp [valL]), LitsOk.nil, by simp, Below.refl _ w1⟩
theorem Runs16.put {w1 wr w2 : World} {vl va va' : Value} {A A' lits lits' : List Int} {q : Nat} (h : Runs16 w1 wr vl va A lits) (hp : WidePost wr w2 w1.heap.size va' A' lits' (Nat.max A.length (q + 1))) (hq : q ≤ 524288) :
    w2.ownsRow w1.heap.size 3 1 vl lits.length (lits.map (Value.int .i64)) ∧ Below w1.heap.size w1 w2 ∧ AV w2 w1.heap.size va' A' ∧ Rep A' lits' ∧ A'.length ≤ 600001 := by
  refine ⟨hp.keep _ _ _ _ h.own, h.bel.trans hp.bel, hp.av, hp.rep, ?_⟩
  rw [hp.len]
  have := h.most
  show max A.length (q + 1) ≤ 600001
  omega
theorem Runs16.push {w1 w2 w3 : World} {vl vl' va' : Value} {A' lits : List Int} {x : Int} (hv : AV w2 w1.heap.size va' A') (hr : Rep A' (lits ++ [x])) (hok : LitsOk (lits ++ [x])) (hm : A'.length ≤ 600001) (hb : Below w1.heap.size w1 w2)
    (ho : w2.ownsRow w1.heap.size 3 1 vl lits.length (lits.map (Value.int .i64))) (cs : Array Value) (hg : (w2.alloc (.cells cs 3)).grownBy w3 vl.ownBlock)
    (ho' : w3.ownsRow w1.heap.size 3 1 vl' (lits.length + 1) (lits.map (Value.int .i64) ++ [.int .i64 x])) : Runs16 w1 w3 vl' va' A' (lits ++ [x]) := by
  have ho1 := ho.alloc (.cells cs 3)
  have hv1 := World.ownsRow.alloc hv (.cells cs 3)
  refine ⟨?_, own_grown hv1 hg (fun b hb' e => own_own_ne hv1 ho1 (by decide) hb' e.symm), hr, hok, hm, Below.grown (hb.alloc hb.size _) hg (Nat.le_trans hb.size (by simp)) (fun k hk => (ho.lt k hk).1)⟩
  rw [List.map_append, List.length_append]
  exact ho'

set_option maxRecDepth 100000 in
set_option maxHeartbeats 4000000 in
theorem run16_ok {w : World} {A : Option Addr} {rows : List (Option Addr × Nat × List Int)} {GA : Option Addr} {given : List Int} (cap capg : Nat) (h : Grid w A rows) (hr : rows.length ≤ 20000) (he : ∀ r ∈ rows, r.2.2.length ≤ 50) (hmr : ∀ r ∈ rows, ∀ x ∈ r.2.2, x ≤ 9223372036854775807) (k : Row .i64 w GA given) (hm : ∀ x ∈ given, x ≤ 9223372036854775807) :
    Calls Tryz.prog 70 #[.slice A rows.length cap, .slice GA given.length capg] w fun e w' => ∃ v, e = .returned (.tuple #[v, .int .i64 (runM (rowsOf rows) given).2]) ∧ w'.ownsRow w.heap.size 3 1 v (runM (rowsOf rows) given).1.length ((runM (rowsOf rows) given).1.map (Value.int .i64)) ∧ Below w.heap.size w w' := by
  have hlen := h.len
  have hgl := k.len
  obtain ⟨i0, hi, hz0, hz1, hz2⟩ := info_parts int_info
  have Kpl := plain16_ok cap h hr he hmr
  have K := Lib.hid k
  have Hm := Lib.hid hm
  clear h k hm he hmr
  go_enter Tryz.func70, Tryz.ntmps70
  go_wp2_with (go_at_call 84; (with_reducible refine Kpl.mono ?_); rintro e w1 ⟨R, RB, rd, rfl, hRl, hRg, hRi, hb1⟩; have HRl := Lib.hid hRl; have HRg := Lib.hid hRg; have HRi := Lib.hid hRi; have Hb1 := Lib.hid hb1; clear hRl hRg hRi hb1)
  clear Kpl
  go_loopg [8, 6, 7] given.length (fun n vi vl va wr => ∃ (i : Nat) (AA lits : List Int), i + n = given.length ∧ vi = .int .i64 i ∧ Runs16 w1 wr vl va AA lits ∧ givenM (given.drop i) lits = givenM given [])
  case atStart => exact ⟨0, _, _, by omega, rfl, Runs16.start w1, rfl⟩
  case round =>
    obtain ⟨i, AA, lits, hig, rfl, hR, hinv⟩ := hrel
    cases gk with
    | succ n =>
      have hin : i < given.length := by omega
      have d1 : decide ((i : Int) < given.length) = true := by simp; omega
      have hKr := K.out.below (Hb1.out.trans (hR.bel.mono Hb1.out.size))
      obtain ⟨b, off, hA, hb, hcell⟩ := K.out.at_.resolve_left (by omega)
      subst hA
      have Hc := Lib.hid (fun W (h : Below w.heap.size w W) => (h.cell (p := ⟨b, off + i, none⟩) hb).trans (hcell i hin))
      have c0 := Hc.out _ (Hb1.out.trans (hR.bel.mono Hb1.out.size))
      have hx := Hm.out given[i] (List.getElem_mem hin)
      have hdr : givenM (given.drop i) lits = givenM (given[i] :: given.drop (i + 1)) lits := by rw [← List.drop_eq_getElem_cons hin]
      rw [hinv] at hdr
      have Hdr := Lib.hid hdr
      have HR := Lib.hid hR
      obtain ⟨AAd, cap2, rfl, hrowA⟩ := hR.av.row (by have := hR.most; omega)
      have t1 : (0 : Int) ≤ (i : Int) := by omega
      have t2 : (i : Int) < (given.length : Int) := by omega
      clear hcell hdr hinv hR hKr hb
      generalize given[i] = x at *
      have Kw := fits_ok x wr
      by_cases hw : wideM x = true
      · rw [hw] at Kw
        have Hg := Lib.hid (show givenM (x :: given.drop (i + 1)) lits = givenM (given.drop (i + 1)) lits by conv => lhs; unfold givenM; rw [if_pos hw])
        clear hw hrowA
        go_wp2_with (go_at_call 85; (with_reducible refine Kw.mono ?_); rintro e w2 ⟨rfl, rfl⟩)
        go_roundg n
        case measure => omega
        case rel => exact ⟨i + 1, AA, lits, by omega, by go_num, HR.out, by rw [← Hg.out, ← Hdr.out]⟩
      have hwf : wideM x = false := by simpa using hw
      have hxr := (wide_iff x).1 hwf
      rw [hwf] at Kw
      have Kv := val15_ok cap2 hrowA x hx
      rw [rep_val HR.out.rep HR.out.ok hxr.1] at Kv
      have Hxr := Lib.hid hxr
      have hxr1 := hxr.1
      have Hw := Lib.hid hw
      clear hw hwf hrowA hxr
      by_cases h2 : valL lits x = 2
      · rw [h2] at Kv
        have Hg := Lib.hid (show givenM (x :: given.drop (i + 1)) lits = (lits, false) by conv => lhs; unfold givenM; rw [if_neg Hw.out, if_neg (by rw [h2]; decide), if_pos h2])
        clear h2
        go_wp2_with (first
          | (go_at_call 85; (with_reducible refine Kw.mono ?_); rintro e w2 ⟨rfl, rfl⟩)
          | (go_at_call 44; (with_reducible refine Kv.mono ?_); rintro e w2 ⟨rfl, rfl⟩))
        go_ret2
        have hf : givenM given [] = (lits, false) := by rw [Hdr.out, Hg.out]
        have hrun : runM (rowsOf rows) given = (lits, -2) := by unfold runM; rw [hf]; rfl
        rw [hrun]
        exact ⟨_, rfl, own_base HR.out.own (fun g hg => Nat.le_trans Hb1.out.size (HR.out.own.lt g hg).1), Hb1.out.trans (HR.out.bel.mono Hb1.out.size)⟩
      by_cases h1 : valL lits x = 1
      · rw [h1] at Kv
        have Hg := Lib.hid (show givenM (x :: given.drop (i + 1)) lits = givenM (given.drop (i + 1)) lits by conv => lhs; unfold givenM; rw [if_neg Hw.out, if_pos h1])
        clear h1 h2
        go_wp2_with (first
          | (go_at_call 85; (with_reducible refine Kw.mono ?_); rintro e w2 ⟨rfl, rfl⟩)
          | (go_at_call 44; (with_reducible refine Kv.mono ?_); rintro e w2 ⟨rfl, rfl⟩))
        go_roundg n
        case measure => omega
        case rel => exact ⟨i + 1, AA, lits, by omega, by go_num, HR.out, by rw [← Hg.out, ← Hdr.out]⟩
      have h0 : valL lits x = 0 := by rcases valL_cases lits x with e | e | e <;> simp_all
      rw [h0] at Kv
      obtain ⟨q, hq⟩ : ∃ q : Nat, x / 2 = q := ⟨(x / 2).toNat, by omega⟩
      have Ks := put16_ok HR.out.av HR.out.rep hq hxr1 Hxr.out.2 h0 HR.out.most HR.out.bel.size
      have Hq := Lib.hid (show q ≤ 524288 by have := Hxr.out.2; omega)
      have Hg := Lib.hid (show givenM (x :: given.drop (i + 1)) lits = givenM (given.drop (i + 1)) (lits ++ [x]) by conv => lhs; unfold givenM; rw [if_neg Hw.out, if_neg h1, if_neg h2])
      have Hok := Lib.hid (HR.out.ok.push Hxr.out h0)
      have X1 := Lib.hid (show (lits.length + 1) * 8 ≤ 140737488355328 by have := HR.out.ok.len; omega)
      clear h0 h1 h2 hq hxr1
      go_upto_region 13 with (first
        | (go_at_call 85; (with_reducible refine Kw.mono ?_); rintro e w2 ⟨rfl, rfl⟩)
        | (go_at_call 44; (with_reducible refine Kv.mono ?_); rintro e w2 ⟨rfl, rfl⟩)
        | (go_at_call 86; (with_reducible refine Ks.mono ?_); rintro e w2 ⟨va', A', rfl, hs⟩; have HS := Lib.hid (HR.out.put hs Hq.out); clear hs))
      have c1 := Hc.out _ (Hb1.out.trans (HS.out.2.1.mono Hb1.out.size))
      go_wp2_with (at_builtin; refine list_push _ rfl (.tmp 44) (.tmp 49) 23 rfl w1.heap.size 3 i0 (.int .i64 0) 1 8 Tryz.underlying23 hi hz0 hz1 hz2 rfl (by decide) _ lits.length (lits.map (Value.int .i64)) rfl (HS.out.1.alloc _) w2.heap.size #[.int .i64 x] rfl (Blk.new w2 _ _) rfl (by intro u hu; rw [List.mem_singleton.1 hu]; rfl) X1.out (by decide) HS.out.2.1.size ?_; intro ga ca w3 ho3 hg3 _ _; have HO3 := Lib.hid ho3; have HG3 := Lib.hid hg3; clear ho3 hg3)
      go_roundg n
      case measure => omega
      case rel => exact ⟨i + 1, A', lits ++ [x], by omega, by go_num, Runs16.push HS.out.2.2.1 HS.out.2.2.2.1 Hok.out HS.out.2.2.2.2 HS.out.2.1 HS.out.1 _ HG3.out HO3.out, by rw [← Hg.out, ← Hdr.out]⟩
    | zero =>
      obtain rfl : i = given.length := by omega
      have d1 : decide ((given.length : Int) < given.length) = false := by simp
      rw [List.drop_length] at hinv
      have hgm : givenM given [] = (lits, true) := hinv.symm
      have Hgm := Lib.hid hgm
      have HR := Lib.hid hR
      clear hinv hgm hR
      have hpl : ∀ r ∈ R, ∀ x ∈ r.2.2, 0 ≤ x ∧ x ≤ 1048576 := by
        intro r hr x hx
        have : r.2.2 ∈ rowsOf R := List.mem_map.2 ⟨r, hr, rfl⟩
        rw [HRi.out] at this
        obtain ⟨c, _, hc⟩ := List.mem_map.1 this
        rw [← hc] at hx
        exact plain_rng hx
      have Hpl := Lib.hid hpl
      have hfin : runM (rowsOf rows) given = runL (rowsOf R) lits := by unfold runM; rw [Hgm.out, HRi.out]; rfl
      have Hfin := Lib.hid hfin
      clear hpl hfin
      go_wp2
      go_loopg [6, 7] (openN (rowsOf R) lits) (fun n vl va wx => ∃ (AA lits2 : List Int), Runs16 w1 wx vl va AA lits2 ∧ openN (rowsOf R) lits2 ≤ n ∧ runL (rowsOf R) lits2 = runL (rowsOf R) lits)
      case atStart => exact ⟨AA, lits, HR.out, Nat.le_refl _, rfl⟩
      case round =>
        obtain ⟨A2, lits2, hR2, hop, hinv⟩ := hrel
        obtain ⟨AAd, cap2, rfl, hrowA⟩ := hR2.av.row (by have := hR2.most; omega)
        have hvv := fun r (hr : r ∈ R) x (hx : x ∈ r.2.2) => rep_val hR2.rep hR2.ok (Hpl.out r hr x hx).1
        have hvm := fun r (hr : r ∈ R) (x : Int) (hx : x ∈ r.2.2) => (show x ≤ 9223372036854775807 by have := Hpl.out r hr x hx; omega)
        have K1 := first_ok (val := valL lits2) rd cap2 1 (HRg.out.below hR2.bel) hrowA hvv hvm
        have K2 := first_ok (val := valL lits2) rd cap2 2 (HRg.out.below hR2.bel) hrowA hvv hvm
        have hc := look_cases (valL lits2) (rowsOf R)
        have hrl := runL.eq_1 (rowsOf R) lits2
        rw [hinv, ← Hfin.out] at hrl
        have hfw := first_wrong (valL lits2) (rowsOf R) 0 (-1) 0
        have hfu := first_unit (valL lits2) (rowsOf R) 0 0 (by omega)
        have hfi := first_index (valL lits2) 2 (rowsOf R) 0 (by omega)
        have HR2 := Lib.hid hR2
        have Hop := Lib.hid hop
        generalize lookF (valL lits2) (rowsOf R) 0 (-1) 0 = p at hc hrl hfw hfu
        obtain ⟨p1, p2, p3⟩ := p
        generalize firstM (valL lits2) 1 (rowsOf R) 0 = f1 at K1 hfw
        generalize firstM (valL lits2) 2 (rowsOf R) 0 = f2 at K2 hfu hfi
        obtain ⟨g1, g2⟩ := f1
        obtain ⟨u1, u2⟩ := f2
        clear hR2 hop hinv hrowA hvv hvm
        simp only at K1 K2 hc hrl hfw hfu hfi
        subst hfw
        rcases hc with ⟨h0, _⟩ | ⟨h1, h2, _⟩ | ⟨h1, h2, _, c, hcm, hpc, hpv, _⟩
        · rw [if_pos h0] at hrl
          have b1 : decide ((0 : Int) ≤ g1) = true := decide_eq_true h0
          have Hrl := Lib.hid hrl
          clear hrl h0 hfu hfi
          go_wp2_with (go_at_call 87; (with_reducible refine K1.mono ?_); rintro e w2 ⟨rfl, rfl⟩)
          go_ret2
          rw [Hrl.out]
          exact ⟨_, rfl, own_base HR2.out.own (fun g hg => Nat.le_trans Hb1.out.size (HR2.out.own.lt g hg).1), Hb1.out.trans (HR2.out.bel.mono Hb1.out.size)⟩
        · subst h1 h2
          rw [if_neg (by decide), if_pos rfl] at hrl
          have hu1 : u1 = -1 := by
            have h3 := hfu rfl
            by_cases e : u1 = -1
            · exact e
            · rw [if_neg e] at h3
              have h4 : (-1 : Int) = u1 := congrArg Prod.fst h3
              exact h4.symm
          subst hu1
          have Hrl := Lib.hid hrl
          clear hrl hfu hfi
          go_wp2_with (first
            | (go_at_call 87; (with_reducible refine K1.mono ?_); rintro e w2 ⟨rfl, rfl⟩)
            | (go_at_call 87; (with_reducible refine K2.mono ?_); rintro e w2 ⟨rfl, rfl⟩))
          go_ret2
          rw [Hrl.out]
          exact ⟨_, rfl, own_base HR2.out.own (fun g hg => Nat.le_trans Hb1.out.size (HR2.out.own.lt g hg).1), Hb1.out.trans (HR2.out.bel.mono Hb1.out.size)⟩
        · subst h1
          rw [if_neg (by decide), if_neg h2] at hrl
          have h3 := hfu rfl
          have hun : u1 ≠ -1 := by
            intro e
            rw [if_pos e] at h3
            exact h2 (congrArg Prod.fst h3)
          rw [if_neg hun] at h3
          injection h3 with h4 h5
          subst h4 h5
          have hu0 : 0 ≤ p2 := hfi.resolve_left hun
          have b2 : decide (p2 < (0 : Int)) = false := decide_eq_false (by omega)
          obtain ⟨r, hr, hrc⟩ := List.mem_map.1 hcm
          have hp3 := Hpl.out r hr p3 (by rw [hrc]; exact hpc)
          obtain ⟨q, hq⟩ : ∃ q : Nat, p3 / 2 = q := ⟨(p3 / 2).toNat, by omega⟩
          have Ks := put16_ok HR2.out.av HR2.out.rep hq hp3.1 hp3.2 hpv HR2.out.most HR2.out.bel.size
          have Hq := Lib.hid (show q ≤ 524288 by have := hp3.2; omega)
          have Hrl := Lib.hid hrl
          have Hok := Lib.hid (HR2.out.ok.push hp3 hpv)
          have Hdec := Lib.hid (openN_push hcm hpc hpv)
          have X1 := Lib.hid (show (lits2.length + 1) * 8 ≤ 140737488355328 by have := HR2.out.ok.len; omega)
          clear hrl h2 hpv hcm hpc hr hrc hq hp3 hfu hfi hun hu0
          obtain ⟨n, hn⟩ : ∃ n, gk = n + 1 := ⟨gk - 1, by have := Hdec.out; have := Hop.out; omega⟩
          subst hn
          go_wp2_with (first
            | (go_at_call 87; (with_reducible refine K1.mono ?_); rintro e w2 ⟨rfl, rfl⟩)
            | (go_at_call 87; (with_reducible refine K2.mono ?_); rintro e w2 ⟨rfl, rfl⟩)
            | (go_at_call 86; (with_reducible refine Ks.mono ?_); rintro e w2 ⟨va', A', rfl, hs⟩; have HS := Lib.hid (HR2.out.put hs Hq.out); clear hs)
            | (at_builtin; refine list_push _ rfl (.tmp 73) (.tmp 75) 23 rfl w1.heap.size 3 i0 (.int .i64 0) 1 8 Tryz.underlying23 hi hz0 hz1 hz2 rfl (by decide) _ lits2.length (lits2.map (Value.int .i64)) rfl (HS.out.1.alloc _) w2.heap.size #[.int .i64 p3] rfl (Blk.new w2 _ _) rfl (by intro u hu; rw [List.mem_singleton.1 hu]; rfl) X1.out (by decide) HS.out.2.1.size ?_; intro ga ca w3 ho3 hg3 _ _; have HO3 := Lib.hid ho3; have HG3 := Lib.hid hg3; clear ho3 hg3))
          go_roundg n
          case measure => omega
          case rel => exact ⟨A', lits2 ++ [p3], Runs16.push HS.out.2.2.1 HS.out.2.2.2.1 Hok.out HS.out.2.2.2.2 HS.out.2.1 HS.out.1 _ HG3.out HO3.out, by have := Hdec.out; have := Hop.out; omega, by rw [← Hrl.out, Hfin.out]⟩
end
section
open Go.RowKit Go.Lib
theorem run16_row {w : World} {A : Option Addr} {rows : List (Option Addr × Nat × List Int)} {GA : Option Addr} {given : List Int} (cap capg : Nat) (h : Grid w A rows) (hr : rows.length ≤ 20000) (he : ∀ r ∈ rows, r.2.2.length ≤ 50) (hmr : ∀ r ∈ rows, ∀ x ∈ r.2.2, x ≤ 9223372036854775807) (k : Row .i64 w GA given) (hm : ∀ x ∈ given, x ≤ 9223372036854775807) :
    Calls Tryz.prog 70 #[.slice A rows.length cap, .slice GA given.length capg] w fun e w' => ∃ B d, e = .returned (.tuple #[.slice B (runM (rowsOf rows) given).1.length d, .int .i64 (runM (rowsOf rows) given).2]) ∧ Row .i64 w' B (runM (rowsOf rows) given).1 ∧ (B = none → d = 0) ∧ Below w.heap.size w w' := by
  refine (run16_ok cap capg h hr he hmr k hm).mono ?_
  rintro e w' ⟨v, rfl, ho, hb⟩
  obtain ⟨B, d, rfl, h1, h2⟩ := own_row ho rfl (by have := (run_lits (rowsOf rows) given).len; omega)
  exact ⟨B, d, rfl, h1, h2, hb⟩

theorem closes16_ok {w : World} {A : Option Addr} {rows : List (Option Addr × Nat × List Int)} {GA : Option Addr} {given : List Int} (cap capg : Nat) (h : Grid w A rows) (hr : rows.length ≤ 20000) (he : ∀ r ∈ rows, r.2.2.length ≤ 50) (hmr : ∀ r ∈ rows, ∀ x ∈ r.2.2, x ≤ 9223372036854775807) (k : Row .i64 w GA given) (hm : ∀ x ∈ given, x ≤ 9223372036854775807) :
    Calls Tryz.prog 61 #[.slice A rows.length cap, .slice GA given.length capg] w fun e w' => e = .returned (.bool ((runM (rowsOf rows) given).2 != -1)) ∧ Below w.heap.size w w' := by
  have K1 := run16_row cap capg h hr he hmr k hm
  generalize runM (rowsOf rows) given = r at K1 ⊢
  obtain ⟨r1, r2⟩ := r
  simp only at K1 ⊢
  generalize hq : (r2 != -1) = q
  clear h k hm hr he hmr
  go_enter Tryz.func61, Tryz.ntmps61
  go_wp2_with (go_at_call 70; (with_reducible refine K1.mono ?_); rintro e w1 ⟨B, d, rfl, hr1, hn1, hb1⟩; have Hb1 := Lib.hid hb1; clear hr1 hn1 hb1)
  go_ret
  exact ⟨rfl, Hb1.out⟩
end
end Go.Proofs.YtmbekchnfbmhbaaGreat

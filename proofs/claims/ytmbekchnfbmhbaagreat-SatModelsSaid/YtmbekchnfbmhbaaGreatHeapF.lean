/- rise and sink. -/
import Derived.Test.YtmbekchnfbmhbaaGreatHeapC
import Derived.StillTailTactics
namespace Go.Proofs.YtmbekchnfbmhbaaGreat
open Go.RowKit Go.Lib

theorem ahead_ok {w : World} {B bh n : Nat} {va vr vt : Value} {la : List Int} {lr : List Nat} {lp : List Int} (h : HP w B bh va vr vt la lr lp) (hn : la.length = n) {x y : Nat} (hx : x < n) (hy : y < n) :
    ∃ r : Bool, ∀ nq, Calls Tryz.prog 49 #[.pointer (some ⟨bh, 0, none⟩), .int .i64 x, .int .i64 y] (w.drewN nq) fun e w' => e = .returned (.bool r) ∧ ∃ m, w' = w.drewN m := by
  obtain ⟨ga, ca, rfl, _, _, _, ca1, _⟩ := h.act.form (by omega)
  have hx2 : x < la.length := by omega
  have hy2 : y < la.length := by omega
  exact ⟨_, fun nq => Calls.quiet_of (ahead_raw (w := w.drewN nq) (a := la[x]) (b := la[y]) h.act.len (h.blk.drewN nq) (ca1 x hx2) (ca1 y hy2) hx2 hy2)⟩

/-- The same nodes are in. -/
structure HMv (w w' : World) (B bh n : Nat) (va vr vt : Value) (la : List Int) (lr lr' : List Nat) (lp' : List Int) : Prop where
  hp : HP w' B bh va vr vt la lr' lp'
  ok : HOk n lr' lp'
  mem : ∀ x, x ∈ lr' ↔ x ∈ lr
  len : lr'.length = lr.length
  kept : Kept (HSet bh va vr vt) w w'
theorem HMv.swap {w w' w2 : World} {B bh n : Nat} {va vr vt : Value} {la : List Int} {lr lr' : List Nat} {lp' : List Int} (h : HMv w w' B bh n va vr vt la lr lr' lp') {i k : Nat} (hi : i < lr'.length) (hk : k < lr'.length)
    (hp : HP w2 B bh va vr vt la (swapL lr' i k) (swapP lr' lp' i k)) (kp : Kept (HSet bh va vr vt) w' w2) : HMv w w2 B bh n va vr vt la lr (swapL lr' i k) (swapP lr' lp' i k) :=
  ⟨hp, h.ok.swap hi hk, fun x => swapL_mem.trans (h.mem x), (swapL_len _ _ _).trans h.len, h.kept.trans kp⟩
theorem HMv.drewN {w w' : World} {B bh n : Nat} {va vr vt : Value} {la : List Int} {lr lr' : List Nat} {lp' : List Int} (h : HMv w w' B bh n va vr vt la lr lr' lp') (k : Nat) : HMv w (w'.drewN k) B bh n va vr vt la lr lr' lp' :=
  ⟨h.hp.drewN k, h.ok, h.mem, h.len, h.kept.drewN k⟩
def HMoved (w : World) (B bh n : Nat) (va vr vt : Value) (la : List Int) (lr : List Nat) (e : Ending) (w' : World) : Prop := ∃ lr' lp', e = .returned (.tuple #[]) ∧ HMv w w' B bh n va vr vt la lr lr' lp'
def RiseAt (w : World) (B bh n : Nat) (va vr vt : Value) (la : List Int) (lr : List Nat) (v1 v4 : Value) (wr : World) : Prop :=
  ∃ k lr' lp', k < lr.length ∧ v1 = .int .i64 (k : Nat) ∧ v4 = .int .i64 ((((k : Nat) : Int) - 1) / 2) ∧ HMv w wr B bh n va vr vt la lr lr' lp'

theorem HP.cells {w : World} {B bh : Nat} {va vr vt : Value} {la : List Int} {lr : List Nat} {lp : List Int} (h : HP w B bh va vr vt la lr lp) (h0 : 0 < lr.length) : ∃ gr cr, vr = .slice (some ⟨gr, 0, none⟩) lr.length cr ∧ lr.length ≤ 65536 ∧ w.cell? ⟨bh, 1, none⟩ = some (.slice (some ⟨gr, 0, none⟩) lr.length cr) ∧ ∀ (i : Nat) (hi : i < lr.length), w.cell? ⟨gr, i, none⟩ = some (.int .i64 (lr[i] : Nat)) := by
  obtain ⟨gr, cr, hvr, _, _, _, cr1, _⟩ := h.rows.form (by rw [nats_len]; omega)
  rw [nats_len] at hvr
  have hl := h.rows.len
  rw [nats_len] at hl
  have hb := h.blk
  rw [hvr] at hb
  refine ⟨gr, cr, hvr, hl, hb.cell 1, fun i hi => ?_⟩
  have := cr1 i (by rw [nats_len]; omega)
  rw [nats_get] at this
  exact this

set_option maxRecDepth 100000 in
set_option maxHeartbeats 2000000 in
theorem rise_ok {w : World} {B bh n : Nat} {va vr vt : Value} {la : List Int} {lr : List Nat} {lp : List Int} (h : HP w B bh va vr vt la lr lp) (ho : HOk n lr lp) (hn : la.length = n) {k : Nat} (hk : k < lr.length) :
    Calls Tryz.prog 34 #[.pointer (some ⟨bh, 0, none⟩), .int .i64 k] w (HMoved w B bh n va vr vt la lr) := by
  have hlr : lr.length ≤ 65536 := (h.cells (by omega)).choose_spec.choose_spec.2.1
  have H0 := Lib.hid (show HMv w w B bh n va vr vt la lr lr lp from ⟨h, ho, fun _ => Iff.rfl, rfl, Kept.refl _ _⟩)
  have Hn := Lib.hid hn
  clear h ho hn
  go_enter Tryz.func34, Tryz.ntmps34
  go_wp2
  go_loopw [1, 4] (RiseAt w B bh n va vr vt la lr) (fun v1 _ _ => (intOf v1).toNat)
  case atStart => exact ⟨k, lr, lp, hk, rfl, rfl, H0.out⟩
  case round =>
    obtain ⟨k, lr', lp', hk, rfl, rfl, hm⟩ := hrel
    clear H0
    have hk' : k < lr'.length := by rw [hm.len]; exact hk
    obtain ⟨gr, cr, hvr, _, c1, cr1⟩ := hm.hp.cells (by omega)
    have c2 := cr1 k hk'
    by_cases h0 : k = 0
    · subst h0
      have d0 : decide ((0 : Int) < ((0 : Nat) : Int)) = false := by decide
      have HM := Lib.hid hm
      clear hm hvr cr1 c1 c2
      go_wp2
      go_quiet (fail)
      go_wp2
      go_end0
      exact ⟨lr', lp', rfl, HM.out.drewN _⟩
    obtain ⟨u, hu⟩ : ∃ u : Nat, ((k : Int) - 1) / 2 = u := ⟨((k : Int) - 1).toNat / 2, by omega⟩
    have huk : u < k := by omega
    rw [hu]
    have c3 := cr1 u (by omega)
    obtain ⟨r, hr⟩ := ahead_ok hm.hp Hn.out (hm.ok.node _ (List.getElem_mem hk')) (hm.ok.node _ (List.getElem_mem (show u < lr'.length by omega)))
    have d0 : decide (0 < k) = true := decide_eq_true (by omega)
    have t1 : (0 : Int) ≤ (k : Int) := by omega
    have t2 : (k : Int) < (lr'.length : Int) := by omega
    have t3 : (0 : Int) ≤ (u : Int) := by omega
    have t4 : (u : Int) < (lr'.length : Int) := by omega
    have HR := Lib.hid hr
    have HM := Lib.hid hm
    have HU := Lib.hid hu
    clear hr hm cr1 hu
    cases r with
    | false =>
      go_wp2
      go_quiet ((go_at_call 49; exact HR.out _))
      go_wp2
      go_end0
      exact ⟨lr', lp', rfl, HM.out.drewN _⟩
    | true =>
      go_wp2
      go_quiet ((go_at_call 49; exact HR.out _))
      have K := fun q => swap_ok (HM.out.hp.drewN q) HM.out.ok (i := k) (k := u) hk' (by omega)
      go_wp2_with (go_at_call 50; (with_reducible refine (K _).mono ?_); rintro e w2 ⟨rfl, hp2, kp2⟩; have HP2 := Lib.hid hp2; have KP2 := Lib.hid kp2; clear hp2 kp2)
      go_roundw
      case rel => exact ⟨u, _, _, by omega, rfl, rfl, (HM.out.drewN _).swap hk' (by omega) HP2.out KP2.out⟩
      case measure => simp [intOf]; omega
end Go.Proofs.YtmbekchnfbmhbaaGreat

/- sink. -/
namespace Go.Proofs.YtmbekchnfbmhbaaGreat
open Go.RowKit Go.Lib

def SinkAt (w : World) (B bh n : Nat) (va vr vt : Value) (la : List Int) (lr : List Nat) (v1 : Value) (wr : World) : Prop :=
  ∃ k lr' lp', (k = 0 ∨ k < lr.length) ∧ v1 = .int .i64 (k : Nat) ∧ HMv w wr B bh n va vr vt la lr lr' lp'
def SinkIn (w : World) (B bh n : Nat) (va vr vt : Value) (la : List Int) (lr lr' : List Nat) (lp' : List Int) (k : Nat) (v4 v5 : Value) (wr : World) : Prop :=
  ∃ best c : Nat, (best = k ∨ (k < best ∧ best < lr.length)) ∧ 2 * k + 1 ≤ c ∧ c ≤ 2 * k + 3 ∧ v4 = .int .i64 (best : Nat) ∧ v5 = .int .i64 (c : Nat) ∧ HMv w wr B bh n va vr vt la lr lr' lp'
theorem HP.head {w : World} {B bh : Nat} {va vr vt : Value} {la : List Int} {lr : List Nat} {lp : List Int} (h : HP w B bh va vr vt la lr lp) : ∃ A cap, vr = .slice A lr.length cap ∧ w.cell? ⟨bh, 1, none⟩ = some (.slice A lr.length cap) := by
  obtain ⟨A, cap, hv⟩ := own_slice h.rows.own
  have hb := h.blk
  rw [nats_len] at hv
  rw [hv] at hb
  exact ⟨A, cap, hv, hb.cell 1⟩

set_option maxRecDepth 100000 in
set_option maxHeartbeats 2000000 in
theorem sink_ok {w : World} {B bh n : Nat} {va vr vt : Value} {la : List Int} {lr : List Nat} {lp : List Int} (h : HP w B bh va vr vt la lr lp) (ho : HOk n lr lp) (hn : la.length = n) (hlr : lr.length ≤ 65536) {k : Nat} (hk : k = 0 ∨ k < lr.length) :
    Calls Tryz.prog 64 #[.pointer (some ⟨bh, 0, none⟩), .int .i64 k] w (HMoved w B bh n va vr vt la lr) := by
  have H0 := Lib.hid (show HMv w w B bh n va vr vt la lr lr lp from ⟨h, ho, fun _ => Iff.rfl, rfl, Kept.refl _ _⟩)
  have Hn := Lib.hid hn
  clear h ho hn
  go_enter Tryz.func64, Tryz.ntmps64
  go_wp2
  go_loopw [1] (SinkAt w B bh n va vr vt la lr) (fun v1 _ => lr.length - (intOf v1).toNat)
  case atStart => exact ⟨k, lr, lp, hk, rfl, H0.out⟩
  case round =>
    obtain ⟨k, lr', lp', hk, rfl, hm⟩ := hrel
    clear H0
    have hml := hm.len
    have hk16 : k ≤ 65536 := by omega
    have HM := Lib.hid hm
    have HML := Lib.hid hml
    clear hm hml
    obtain ⟨wo, rfl⟩ : ∃ wo : World, wo = wr := ⟨_, rfl⟩
    go_wp2
    go_loopw [4, 5] (SinkIn w B bh n va vr vt la lr lr' lp' k) (fun _ v5 _ => 2 * k + 3 - (intOf v5).toNat)
    case atStart => exact ⟨k, 2 * k + 1, .inl rfl, by omega, by omega, rfl, by go_num, HM.out⟩
    case round =>
      obtain ⟨best, c, hb, hc1, hc2, rfl, rfl, hm⟩ := hrel
      clear HM
      have hb16 : best ≤ 65536 := by omega
      by_cases hc : c ≤ 2 * k + 2
      · by_cases hcl : c < lr'.length
        · have hkl : k < lr'.length := by omega
          have hbl : best < lr'.length := by have := HML.out; omega
          have hml := HML.out
          obtain ⟨gr, cr, hvr, _, c1, cr1⟩ := hm.hp.cells (by omega)
          have c2 := cr1 c hcl
          have c3 := cr1 best hbl
          obtain ⟨r, hr⟩ := ahead_ok hm.hp Hn.out (hm.ok.node _ (List.getElem_mem hcl)) (hm.ok.node _ (List.getElem_mem hbl))
          have d0 : decide (c < lr'.length) = true := decide_eq_true hcl
          have t1 : (0 : Int) ≤ (c : Int) := by omega
          have t2 : (c : Int) < (lr'.length : Int) := by omega
          have t3 : (0 : Int) ≤ (best : Int) := by omega
          have t4 : (best : Int) < (lr'.length : Int) := by omega
          have HR := Lib.hid hr
          have HM := Lib.hid hm
          clear hr hm cr1 hml
          cases r with
          | false =>
            go_wp2
            go_quiet ((go_at_call 49; exact HR.out _))
            go_wp2
            go_roundw
            case rel => exact ⟨best, c + 1, hb, by omega, by omega, rfl, by go_num, HM.out.drewN _⟩
            case measure => simp [intOf]; omega
          | true =>
            go_wp2
            go_quiet ((go_at_call 49; exact HR.out _))
            go_wp2
            go_roundw
            case rel => exact ⟨c, c + 1, .inr ⟨by omega, by have := HML.out; omega⟩, by omega, by omega, rfl, by go_num, HM.out.drewN _⟩
            case measure => simp [intOf]; omega
        · obtain ⟨A, cr, hvr, c1⟩ := hm.hp.head
          have d0 : decide (c < lr'.length) = false := decide_eq_false hcl
          have HM := Lib.hid hm
          clear hm hvr
          go_wp2
          go_quiet (fail)
          go_wp2
          go_roundw
          case rel => exact ⟨best, c + 1, hb, by omega, by omega, rfl, by go_num, HM.out.drewN _⟩
          case measure => simp [intOf]; omega
      · have HM := Lib.hid hm
        clear hm
        by_cases hbk : best = k
        · subst hbk
          go_wp2
          go_end0
          exact ⟨lr', lp', rfl, HM.out⟩
        · have d1 : ((best : Int) == (k : Int)) = false := by simp; omega
          have hbl : best < lr'.length := by have := HML.out; omega
          have K := swap_ok HM.out.hp HM.out.ok (i := k) (k := best) (by omega) hbl
          go_wp2_with (go_at_call 50; (with_reducible refine K.mono ?_); rintro e w2 ⟨rfl, hp2, kp2⟩; have HP2 := Lib.hid hp2; have KP2 := Lib.hid kp2; clear hp2 kp2)
          go_roundw
          case rel => exact ⟨best, _, _, .inr (by have := HML.out; omega), rfl, HM.out.swap (by omega) hbl HP2.out KP2.out⟩
          case measure => simp [intOf]; omega
end Go.Proofs.YtmbekchnfbmhbaaGreat

/- is, has, Put. -/
namespace Go.Proofs.YtmbekchnfbmhbaaGreat
open Go.RowKit Go.Lib

theorem is_yes {w : World} {bh n ca : Nat} {A : Option Addr} {vr vt : Value} (h : Blk w bh 68 #[.slice A n ca, vr, vt]) (_hn : n ≤ 65536) {x : Nat} (hx : x < n) :
    Calls Tryz.prog 32 #[.pointer (some ⟨bh, 0, none⟩), .int .i64 x] w fun e w' => e = .returned (.bool true) ∧ w = w' := by
  have b0 := h.cell 0
  simp only [List.getElem?_toArray, List.getElem?_cons_zero] at b0
  have d1 : decide ((0 : Int) ≤ (x : Int)) = true := decide_eq_true (by omega)
  have d2 : decide (x < n) = true := decide_eq_true hx
  clear h
  go_enter Tryz.func32, Tryz.ntmps32
  go_wp2
  go_ret
  exact ⟨rfl, rfl⟩
theorem has_raw {w : World} {bh n gt ct : Nat} {va vr : Value} {p : Int} (h : Blk w bh 68 #[va, vr, .slice (some ⟨gt, 0, none⟩) n ct]) {x : Nat} (hx : x < n) (hc : w.cell? ⟨gt, x, none⟩ = some (.int .i64 p)) :
    Calls Tryz.prog 33 #[.pointer (some ⟨bh, 0, none⟩), .int .i64 x] w fun e w' => e = .returned (.bool (decide (0 ≤ p))) ∧ w = w' := by
  have b0 := h.cell 2
  simp only [List.getElem?_toArray, List.getElem?_cons_zero, List.getElem?_cons_succ] at b0
  have t1 : (0 : Int) ≤ (x : Int) := by omega
  have t2 : (x : Int) < (n : Int) := by omega
  clear h
  go_enter Tryz.func33, Tryz.ntmps33
  go_wp2
  go_ret
  exact ⟨rfl, rfl⟩

/-- The activities of n nodes. -/
def ActOk (n : Nat) (la : List Int) : Prop := la.length = n ∧ ∀ (i : Nat) (h : i < la.length), 0 ≤ la[i] ∧ la[i] ≤ 1099511627776
/-- A heap of n nodes, of which those of lr are in; S: its blocks. -/
def HH (w : World) (B bh n : Nat) (S : Nat → Prop) (lr : List Nat) : Prop := ∃ va vr vt la lp, HP w B bh va vr vt la lr lp ∧ HOk n lr lp ∧ ActOk n la ∧ ∀ k, S k ↔ HSet bh va vr vt k

theorem HOk.len {n : Nat} {lr : List Nat} {lp : List Int} (h : HOk n lr lp) : lr.length ≤ n := by
  refine nodup_bound n lr ?_ h.node
  rw [List.nodup_iff_pairwise_ne, List.pairwise_iff_getElem]
  intro i j hi hj hij e
  have := h.inj hi hj e
  omega

theorem HP.push {w w2 w3 : World} {B bh g cap x n : Nat} {va vr vt : Value} {la : List Int} {lr : List Nat} {lp : List Int} (h : HP w B bh va vr vt la lr lp) (ho : HOk n lr lp) (hx : x < n) (hin : x ∉ lr)
    (hp : HP w2 B bh va vr vt la lr (lp.set x lr.length)) (kp : Kept (HSet bh va vr vt) w w2) {W : World} (kW : Kept (fun _ => False) w2 W) (hsz : w2.heap.size < W.heap.size)
    (ho3 : w3.ownsRow B 3 1 (.slice (some ⟨g, 0, none⟩) (lr.length + 1) cap) (lr.length + 1) ((nats lr).map (Value.int .i64) ++ [.int .i64 (x : Nat)])) (hg : W.grownBy w3 vr.ownBlock) (hat : vr.ownBlock = some g ∨ g = W.heap.size) :
    (Blk w3 bh 68 #[va, vr, vt]) ∧ HP (w3.setCell ⟨bh, 1, none⟩ (.slice (some ⟨g, 0, none⟩) (lr.length + 1) cap)) B bh va (.slice (some ⟨g, 0, none⟩) (lr.length + 1) cap) vt la (lr ++ [x]) (lp.set x lr.length) ∧ HOk n (lr ++ [x]) (lp.set x lr.length) ∧
    Kept (HSet bh va vr vt) w (w3.setCell ⟨bh, 1, none⟩ (.slice (some ⟨g, 0, none⟩) (lr.length + 1) cap)) ∧ ∀ k, HSet bh va (.slice (some ⟨g, 0, none⟩) (lr.length + 1) cap) vt k → HSet bh va vr vt k ∨ w.heap.size ≤ k := by
  have hb1 := hp.blk.kept kW (fun h => h)
  have hb3 := hb1.grown hg (fun e => hp.rows_ne hp.rows.own e.symm)
  have hsz2 : w.heap.size ≤ w2.heap.size := kp.size
  have hgr : ∀ {v : Value} {xs : List Int}, IRowAt w2 B v xs → v.ownBlock ≠ some g → (∀ k, v.ownBlock = some k → vr.ownBlock ≠ some k) → IRowAt w3 B v xs := by
    intro v xs hr hne hvr
    refine ⟨(own_kept hr.own kW (fun _ _ h => h)).kept hg ?_, hr.len⟩
    rcases hob : v.ownBlock with _ | k
    · exact .inl rfl
    · exact .inr (fun e => hvr k hob e.symm)
  have hag : va.ownBlock ≠ some g := fun e => by
    rcases hat with h | h
    · exact hp.ar g e h
    · have := (hp.act.own.lt g e).2; omega
  have htg : vt.ownBlock ≠ some g := fun e => by
    rcases hat with h | h
    · exact hp.rt g h e
    · have := (hp.at_.own.lt g e).2; omega
  have ha3 := hgr hp.act hag (fun k e => hp.ar k e)
  have ht3 := hgr hp.at_ htg (fun k e e2 => hp.rt k e2 e)
  have hln := ho.len
  have hlat := ho.at_
  have hl := h.at_.len
  have hr3 : IRowAt w3 B (.slice (some ⟨g, 0, none⟩) (lr.length + 1) cap) (nats (lr ++ [x])) := by
    refine ⟨?_, ?_⟩
    · have e : (nats (lr ++ [x])).map (Value.int .i64) = (nats lr).map (Value.int .i64) ++ [.int .i64 (x : Nat)] := by simp [nats]
      rw [e, nats_len, List.length_append, List.length_singleton]
      exact ho3
    · rw [nats_len, List.length_append, List.length_singleton]
      have : lr.length < n := by
        have := nodup_bound n (x :: lr) (by
          rw [List.nodup_cons]
          refine ⟨hin, ?_⟩
          rw [List.nodup_iff_pairwise_ne, List.pairwise_iff_getElem]
          intro i j hi hj hij e
          have := ho.inj hi hj e
          omega) (by
          intro y hy
          rcases List.mem_cons.1 hy with rfl | hy
          · exact hx
          · exact ho.node y hy)
        rw [List.length_cons] at this
        omega
      omega
  have hbg : bh ≠ g := fun e => by
    have := own_blk_ne ho3 hb3 (by decide)
    rw [e] at this
    exact this rfl
  refine ⟨hb3, ⟨?_, ha3.kept (Kept.set1 w3 bh 1 _) (fun k hk e => hp.rows_ne hp.act.own (e ▸ hk)), hr3.kept (Kept.set1 w3 bh 1 _) (fun k hk e => ?_), ht3.kept (Kept.set1 w3 bh 1 _) (fun k hk e => hp.rows_ne hp.at_.own (e ▸ hk)), ?_, hp.at2, ?_, hp.hb⟩, ⟨by rw [List.length_set]; exact hlat, ?_, ?_, ?_⟩, ?_, ?_⟩
  · have := hb3.set_ 1 (.slice (some ⟨g, 0, none⟩) (lr.length + 1) cap)
    simpa using this
  · have hk : g = k := Option.some.inj hk
    exact hbg (by rw [hk]; exact e.symm)
  · intro k hk e
    have e : g = k := Option.some.inj e
    exact hag (by rw [e]; exact hk)
  · intro k hk e
    have hk : g = k := Option.some.inj hk
    exact htg (by rw [hk]; exact e)
  · intro y hy
    rcases List.mem_append.1 hy with hy | hy
    · exact ho.node y hy
    · rw [List.mem_singleton.1 hy]; exact hx
  · intro i hi
    rw [List.length_append, List.length_singleton] at hi
    rw [List.getElem?_set]
    by_cases he : i < lr.length
    · rw [List.getElem_append_left he, if_neg (show ¬ x = lr[i] from fun e => hin (e ▸ List.getElem_mem he))]
      exact ho.place i he
    · obtain rfl : i = lr.length := by omega
      rw [List.getElem_append_right (Nat.le_refl _)]
      simp only [Nat.sub_self, List.getElem_cons_zero]
      rw [if_pos trivial, if_pos (by omega)]
  · intro v hv hn
    rw [List.mem_append, List.mem_singleton, not_or] at hn
    rw [List.getElem?_set, if_neg (show ¬ x = v from fun e => hn.2 e.symm)]
    exact ho.out v hv hn.1
  · exact (((kp.then_ kW (fun i _ h => h.elim)).grown hg (fun k hk => .inl (.inr (.inr (.inl hk))))).setCell (p := ⟨bh, 1, none⟩) (.inl (.inl rfl)) _)
  · rintro k (hk | hk | hk | hk)
    · exact .inl (.inl hk)
    · exact .inl (.inr (.inl hk))
    · have hk : g = k := Option.some.inj hk
      rcases hat with h | h
      · exact .inl (.inr (.inr (.inl (by rw [h, hk]))))
      · right; omega
    · exact .inl (.inr (.inr (.inr hk)))
/-- What a heap's function leaves: the nodes that fit. -/
def HGave (w : World) (B bh n : Nat) (S : Nat → Prop) (P : Nat → Prop) (v : Value) (e : Ending) (w' : World) : Prop := ∃ S' lr', e = .returned v ∧ HH w' B bh n S' lr' ∧ (∀ y, y ∈ lr' ↔ P y) ∧ Kept S w w' ∧ ∀ k, S' k → S k ∨ w.heap.size ≤ k

set_option maxRecDepth 100000 in
set_option maxHeartbeats 2000000 in
theorem put_H {w : World} {B bh n : Nat} {S : Nat → Prop} {lr : List Nat} (h : HH w B bh n S lr) (hB : B ≤ w.heap.size) {x : Nat} (hx : x < n) :
    Calls Tryz.prog 21 #[.pointer (some ⟨bh, 0, none⟩), .int .i64 x] w (HGave w B bh n S (fun y => y ∈ lr ∨ y = x) (.int .i64 0)) := by
  obtain ⟨va, vr, vt, la, lp, hp, ho, hA, hS⟩ := h
  have hn := hA.1
  have hla := hp.act.len
  have hlp := ho.at_
  obtain ⟨A, ca, hva⟩ := own_slice hp.act.own
  rw [hn] at hva
  obtain ⟨gt, ct, hvt, _, _, _, ct1, ft1⟩ := hp.at_.form (by omega)
  rw [hlp] at hvt
  have hot : vt.ownBlock = some gt := by rw [hvt]; rfl
  have cx := ct1 x (by omega)
  have hb := hp.blk
  rw [hvt] at hb
  have KH := has_raw hb hx cx
  rw [hva] at hb
  have KI := is_yes hb (by omega) hx
  by_cases hin : x ∈ lr
  · obtain ⟨i, hi, e⟩ := List.mem_iff_getElem.1 hin
    have hpl := ho.place i hi
    rw [e, List.getElem?_eq_getElem (by omega)] at hpl
    injection hpl with hpl
    rw [hpl, decide_eq_true (by omega : (0 : Int) ≤ (i : Int))] at KH
    have HF := Lib.hid (show HGave w B bh n S (fun y => y ∈ lr ∨ y = x) (.int .i64 0) (.returned (.int .i64 0)) w from ⟨S, lr, rfl, ⟨va, vr, vt, la, lp, hp, ho, hA, hS⟩, fun y => ⟨.inl, fun h => h.elim id (fun h => h ▸ hin)⟩, Kept.refl _ _, fun k h => .inl h⟩)
    clear hp ho hA hn hS hla hlp hva hvt ct1 ft1 hot cx hb hin hi e hpl
    go_enter Tryz.func21, Tryz.ntmps21
    go_wp2_with (first
      | (go_at_call 32; (with_reducible refine KI.mono ?_); rintro e w' ⟨rfl, rfl⟩)
      | (go_at_call 33; (with_reducible refine KH.mono ?_); rintro e w' ⟨rfl, rfl⟩))
    go_ret
    exact HF.out
  have hlen := ho.len
  have hpx := ho.out x hx hin
  rw [List.getElem?_eq_getElem (by omega)] at hpx
  injection hpx with hpx
  rw [hpx, show decide ((0 : Int) ≤ -1) = false from by decide] at KH
  rw [hpx] at cx
  have fx := ft1 x
  obtain ⟨R, cr, rfl, b1⟩ := hp.head
  have b2 := hp.blk.cell 2
  simp only [List.getElem?_toArray, List.getElem?_cons_zero, List.getElem?_cons_succ] at b2
  rw [hvt] at b2
  have t1 : (0 : Int) ≤ (x : Int) := by omega
  have t2 : (x : Int) < (n : Int) := by omega
  have hl16 : lr.length ≤ 65536 := by omega
  have HIN := Lib.hid hin
  have HP0 := Lib.hid hp
  have HO0 := Lib.hid ho
  have HN0 := Lib.hid hn
  have HAC := Lib.hid hA
  have HS0 := Lib.hid hS
  have HVT := Lib.hid hvt
  clear hp ho hA hn hS hla hlp hva hvt ct1 ft1 hot hb hin hpx
  go_enter Tryz.func21, Tryz.ntmps21
  go_wp2_with (first
      | (go_at_call 32; (with_reducible refine KI.mono ?_); rintro e w' ⟨rfl, rfl⟩)
      | (go_at_call 33; (with_reducible refine KH.mono ?_); rintro e w' ⟨rfl, rfl⟩))
  go_region
  have hp1 := HP0.out.setT (ct := ct) (HVT.out.trans (by rw [HO0.out.at_])) x lr.length
  have kp1 : Kept (HSet bh va (.slice R lr.length cr) vt) w (w.setCell ⟨gt, x, none⟩ (.int .i64 lr.length)) := (Kept.refl _ w).setCell (p := ⟨gt, x, none⟩) (.inl (.inr (.inr (.inr (by rw [HVT.out]; rfl))))) _
  generalize w.setCell ⟨gt, x, none⟩ (.int .i64 lr.length) = w1 at *
  have HP1 := Lib.hid hp1
  have KP1 := Lib.hid kp1
  have hB1 : B ≤ w1.heap.size := Nat.le_trans hB kp1.size
  have y1 := hp1.blk.cell 1
  simp only [List.getElem?_toArray, List.getElem?_cons_zero, List.getElem?_cons_succ] at y1
  have hown := HP1.out.rows.own
  rw [nats_len] at hown
  obtain ⟨i0, hi, hz0, hz1, hz2⟩ := info_parts tint_info
  have X1 := Lib.hid (show (lr.length + 1) * 8 ≤ 140737488355328 by omega)
  have HOWN := Lib.hid hown
  clear hp1 kp1 cx fx b1 b2 hown
  go_wp2_with (at_builtin; refine list_push _ rfl (.tmp 37) (.tmp 39) 23 rfl B 3 i0 (.int .i64 0) 1 8 Tryz.underlying23 hi hz0 hz1 hz2 rfl (by decide) (.slice R lr.length cr) lr.length ((nats lr).map (Value.int .i64)) rfl ((own_drewN HOWN.out 1).alloc _) w1.heap.size #[.int .i64 x] rfl (Blk.new (w1.drewN 1) _ _) rfl (by intro u hu; rw [List.mem_singleton.1 hu]; rfl) X1.out (by decide) hB1 ?_; intro g cap w3 ho3 hg3 hat3 hlt3; have HPU := Lib.hid (HP0.out.push HO0.out hx HIN.out HP1.out KP1.out (((Kept.refl (fun _ => False) w1).alloc (.cells #[.int .i64 x] 3)).drew) (by simp) ho3 hg3 hat3); have y3 := HPU.out.1.cell 1; have f3 := HPU.out.1.frozen 1; simp only [List.getElem?_toArray, List.getElem?_cons_zero, List.getElem?_cons_succ] at y3; clear ho3 hg3 hat3 y1)
  clear y3 f3 hlt3
  have HP4 := Lib.hid HPU.out.2.1
  have HO4 := Lib.hid HPU.out.2.2.1
  have HK4 := Lib.hid HPU.out.2.2.2.1
  have HS4 := Lib.hid HPU.out.2.2.2.2
  clear HPU
  generalize w3.setCell ⟨bh, 1, none⟩ (.slice (some ⟨g, 0, none⟩) (lr.length + 1) cap) = w4 at *
  have z2 := HP4.out.blk.cell 2
  simp only [List.getElem?_toArray, List.getElem?_cons_zero, List.getElem?_cons_succ] at z2
  rw [HVT.out] at z2
  have hlx : x < (lp.set x (lr.length : Int)).length := by rw [List.length_set, HO0.out.at_]; exact hx
  have hnl : (lp.set x (lr.length : Int)).length = n := by rw [List.length_set]; exact HO0.out.at_
  obtain ⟨gt', ct', hvt', _, _, _, ct4, _⟩ := HP4.out.at_.form (by omega)
  rw [HVT.out] at hvt'
  obtain rfl : gt = gt' := by
    injection hvt' with h1 h2 h3
    injection h1 with h1
    injection h1 with h1
  clear hvt'
  have zx := ct4 x hlx
  rw [List.getElem_set_self] at zx
  have K := rise_ok (w := w4.drew) (HP4.out.drewN 1) HO4.out HN0.out (k := lr.length) (by rw [List.length_append, List.length_singleton]; omega)
  clear ct4 hlx hnl
  refine wp_region_still_tail 11 (by kernel_rfl) (by kernel_rfl) ?_
  simp only [List.take_succ_cons, List.take_zero, List.drop_succ_cons, List.drop_zero]
  change wpStill Tryz.prog _ w4.drew (fun a' => wpList _ _ _ _ a' w4.drew) _ _
  iterate 11 still_step
  refine wpStill_nil ?_
  go_wp2_with (go_at_call 34; (with_reducible refine K.mono ?_); rintro e w5 ⟨lr5, lp5, rfl, hm5⟩; have HM5 := Lib.hid hm5; clear hm5)
  go_ret
  have hm := HM5.out
  refine ⟨HSet bh va (.slice (some ⟨g, 0, none⟩) (lr.length + 1) cap) vt, lr5, rfl, ⟨_, _, _, _, _, hm.hp, hm.ok, HAC.out, fun _ => Iff.rfl⟩, fun y => (hm.mem y).trans (by simp), ?_, ?_⟩
  · exact (((HK4.out.drewN 1).mono (fun k _ hk => (HS0.out k).2 hk)).then_ hm.kept (fun i hi hs => (HS4.out i hs).elim (HS0.out i).2 (fun h => by omega)))
  · intro k hk
    exact (HS4.out k hk).imp (HS0.out k).2 id
end Go.Proofs.YtmbekchnfbmhbaaGreat

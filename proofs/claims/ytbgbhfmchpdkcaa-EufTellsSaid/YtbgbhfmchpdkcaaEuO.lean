/- The reference: is a node an argument of an application? -/
import Derived.Test.YtbgbhfmchpdkcaaEuN
namespace Go.Proofs.Ytbgbhfmchpdkcaa
open Go.RowKit

def HitAt (T : List Nd) (p : Nat) (id : Int) : Prop := (∃ n, T[p]? = some n ∧ n.op = 1 ∧ n.a0 = id ∧ ArgOf T p) ∨ ∃ n, ∃ j : Nat, T[p]? = some n ∧ n.op = 13 ∧ (j : Int) < n.len ∧ j < 3 ∧ n.arg j = id
theorem hit_iff {T : List Nd} {id : Int} : ArgOf T id ↔ ∃ p, HitAt T p id := by
  constructor
  · rintro ⟨p, n, j, h1, h2, h3, h4, h5⟩
    rcases h5.last with e | ⟨i, m, k1, k2, k3, k4⟩
    · exact ⟨p, .inr ⟨n, j, h1, h2, h3, h4, e⟩⟩
    · exact ⟨i, .inl ⟨m, k1, k2, k3, p, n, j, h1, h2, h3, h4, k4⟩⟩
  · rintro ⟨p, ⟨n, h1, h2, rfl, q, m, j, k1, k2, k3, k4, k5⟩ | ⟨n, j, h1, h2, h3, h4, rfl⟩⟩
    · exact ⟨q, m, j, k1, k2, k3, k4, k5.snoc h1 h2⟩
    · exact ⟨p, n, j, h1, h2, h3, h4, .refl _⟩
theorem hit_no {T : List Nd} {i : Nat} {n : Nd} {id : Int} (hn : T[i]? = some n) (h1 : n.op = 1 → n.a0 = id → ¬ ArgOf T i) (h2 : n.op = 13 → ∀ j : Nat, (j : Int) < n.len → j < 3 → n.arg j ≠ id) : ¬ HitAt T i id := by
  rintro (⟨m, g1, g2, g3, g4⟩ | ⟨m, j, g1, g2, g3, g4, g5⟩)
  · rw [hn] at g1; injection g1 with g1; subst g1; exact h1 g2 g3 g4
  · rw [hn] at g1; injection g1 with g1; subst g1; exact h2 g2 j g3 g4 g5

set_option maxRecDepth 100000 in
set_option maxHeartbeats 4000000 in
theorem rarg_ok {T : List Nd} (hT : TabOk T) (c : Nat) : ∀ (m id : Nat), id < T.length → T.length - id ≤ m → ∀ {w : World} {A : Option Addr}, Tab w A T →
    Calls Try.prog 58 #[.agg #[.slice A T.length c], .int .i64 (id : Int)] w (TestIs (ArgOf T id) w) := by
  intro m
  induction m with
  | zero => intro id h1 h2; omega
  | succ m ih =>
  intro id hid hm w A h
  have hlen := h.len
  have HB0 := Lib.hid (show Below w.heap.size w (w.alloc (.cells #[.slice A T.length c] 24)) from (Below.refl _ w).alloc (Nat.le_refl _) _)
  have HX0 := Lib.hid (Blk.new w 24 #[.slice A T.length c])
  have H := Lib.hid h
  have IH := Lib.hid ih
  have HT := Lib.hid hT
  have HM := Lib.hid hm
  clear h ih hm hT
  go_enter Try.func58, Try.ntmps58
  go_wp2
  go_loopg [5] T.length (fun g v wr => ∃ i : Nat, i + g = T.length ∧ v = .int .i64 i ∧ Below w.heap.size w wr ∧ Blk wr w.heap.size 24 #[.slice A T.length c] ∧ ∀ p, p < i → ¬ HitAt T p id)
  case atStart => exact ⟨0, by omega, rfl, HB0.out, HX0.out, fun p hp => absurd hp (Nat.not_lt_zero _)⟩
  case round =>
    obtain ⟨wo, rfl⟩ : ∃ wo : World, wo = wr := ⟨_, rfl⟩
    obtain ⟨i, hig, rfl, hb, hbl, hinv⟩ := hrel
    have HB := Lib.hid hb
    have HX := Lib.hid hbl
    have HI := Lib.hid hinv
    have c0 := hbl.cell 0
    have hls := hbl.lt
    simp only [List.getElem?_toArray, List.getElem?_cons_zero] at c0
    clear hb hbl hinv
    cases gk with
    | zero =>
      obtain rfl : i = T.length := by omega
      have d1 : decide ((T.length : Int) < T.length) = false := by simp
      go_wp2
      go_ret
      refine TestIs.no (fun ha => ?_) HB.out
      obtain ⟨p, hp⟩ := hit_iff.1 ha
      have : p < T.length := by rcases hp with ⟨n, h1, _⟩ | ⟨n, j, h1, _⟩ <;> exact (List.getElem?_eq_some_iff.1 h1).1
      exact HI.out p this hp
    | succ gk =>
      have hlt : i < T.length := by omega
      have d1 : decide ((i : Int) < T.length) = true := by simp; omega
      have t1 : (0 : Int) ≤ (i : Int) := by omega
      have t2 : (i : Int) < (T.length : Int) := by omega
      obtain ⟨b, off, hA, hbb, hcell⟩ := (H.out.below HB.out).at_.resolve_left (by omega)
      subst hA
      have hn := hcell i hlt
      obtain ⟨y0, y1, y2, y3, y4, y5, y6, y7⟩ := hn.all
      have HG := Lib.hid (List.getElem?_eq_getElem hlt)
      have HWf := Lib.hid hn.wf
      have HST := Lib.hid (HT.out.st i _ (List.getElem?_eq_getElem hlt))
      have r1 := hn.wf.len
      clear hcell hn
      generalize T[i] = n at *
      obtain ⟨ov, hov⟩ : ∃ ov, n.op = ov := ⟨_, rfl⟩
      have HOV := Lib.hid hov
      rw [hov] at y0
      have HE := Lib.hid (show (#[.int .i8 ov, .int .i8 n.len, .int .i64 n.a0, .int .i64 n.a1, .int .i64 n.a2, .int .i64 n.sort, .int .i64 n.fn, .int .i64 n.num] : Array Value) = (nodeCells n).toArray by simp [nodeCells, hov])
      clear hov
      have HB1 : Hid (Below w.heap.size w (wo.alloc (.cells #[.int .i8 ov, .int .i8 n.len, .int .i64 n.a0, .int .i64 n.a1, .int .i64 n.a2, .int .i64 n.sort, .int .i64 n.fn, .int .i64 n.num] 52))) := Lib.hid (HB.out.alloc HB.out.size _)
      have HX1 : Hid (Blk (wo.alloc (.cells #[.int .i8 ov, .int .i8 n.len, .int .i64 n.a0, .int .i64 n.a1, .int .i64 n.a2, .int .i64 n.sort, .int .i64 n.fn, .int .i64 n.num] 52)) w.heap.size 24 #[.slice (some ⟨b, off, none⟩) T.length c]) := Lib.hid (HX.out.alloc _)
      have HN1 : Hid (Blk (wo.alloc (.cells #[.int .i8 ov, .int .i8 n.len, .int .i64 n.a0, .int .i64 n.a1, .int .i64 n.a2, .int .i64 n.sort, .int .i64 n.fn, .int .i64 n.num] 52)) wo.heap.size 52 #[.int .i8 ov, .int .i8 n.len, .int .i64 n.a0, .int .i64 n.a1, .int .i64 n.a2, .int .i64 n.sort, .int .i64 n.fn, .int .i64 n.num]) := Lib.hid (Blk.new wo _ _)
      by_cases o13 : ov = 13
      · subst o13
        go_wp2
        go_loopg [7] n.len.toNat (fun g v wx => ∃ k : Nat, k + g = n.len.toNat ∧ v = .int .i64 k ∧ Below w.heap.size w wx ∧ Blk wx w.heap.size 24 #[.slice (some ⟨b, off, none⟩) T.length c] ∧ Blk wx wo.heap.size 52 (nodeCells n).toArray ∧ ∀ j : Nat, j < k → n.arg j ≠ id)
        case atStart => exact ⟨0, by omega, rfl, HB1.out, HX1.out, by rw [← HE.out]; exact HN1.out, fun j hj => absurd hj (Nat.not_lt_zero _)⟩
        case round =>
          obtain ⟨k, hkg, rfl, hb, hbl, hbn, hne⟩ := hrel
          have HB2 := Lib.hid hb
          have HX2 := Lib.hid hbl
          have HN2 := Lib.hid hbn
          have HNE := Lib.hid hne
          have hlN := hbn.lt
          have hnd : NdAt wr wo.heap.size 0 n := ⟨hbn.lt, fun j hj => by rw [hbn.cell, List.getElem?_toArray, Nat.zero_add], HWf.out⟩
          obtain ⟨z0, z1, _, _, _, _, _, _⟩ := hnd.all
          rw [HOV.out] at z0
          simp only [Nat.zero_add] at z1
          have HND := Lib.hid hnd
          have h3 := HST.out.len
          clear hb hbl hbn hne hnd
          cases gk with
          | zero =>
            have d2 : decide ((k : Int) < n.len) = false := decide_eq_false (by omega)
            go_wp2
            go_roundg gk
            case measure => omega
            case rel =>
              refine ⟨i + 1, by omega, by go_num, HB2.out, HX2.out, fun p hp => ?_⟩
              rcases Nat.lt_succ_iff_lt_or_eq.1 hp with hp | rfl
              · exact HI.out p hp
              · exact hit_no HG.out (fun e => by rw [HOV.out] at e; omega) fun _ j hj _ => HNE.out j (by omega)
          | succ g2 =>
            have d2 : decide ((k : Int) < n.len) = true := decide_eq_true (by omega)
            have z2 := HND.out.arg k (by omega)
            simp only [Nat.zero_add] at z2
            have hk3 : k < 3 := by omega
            have HK := Lib.hid (show (k : Int) < n.len by omega)
            obtain ⟨av, hav⟩ : ∃ av, n.arg k = av := ⟨_, rfl⟩
            rw [hav] at z2
            have HAV := Lib.hid hav
            clear hav
            by_cases he : av = (id : Int)
            · have b1 : (av == (id : Int)) = true := by simp [he]
              have HA := Lib.hid he
              clear he
              go_wp2
              go_ret
              exact TestIs.yes (hit_iff.2 ⟨i, .inr ⟨n, k, HG.out, HOV.out, HK.out, hk3, by rw [HAV.out]; exact HA.out⟩⟩) HB2.out
            · have b1 : (av == (id : Int)) = false := by simp [he]
              have HA := Lib.hid he
              clear he
              go_wp2
              go_roundg g2
              case measure => omega
              case rel =>
                refine ⟨k + 1, by omega, by go_num, HB2.out, HX2.out, HN2.out, fun j hj => ?_⟩
                rcases Nat.lt_succ_iff_lt_or_eq.1 hj with hj | rfl
                · exact HNE.out j hj
                · rw [HAV.out]
                  exact HA.out
      have b13 : (ov == 13) = false := by simp [o13]
      by_cases o1 : ov = 1
      · subst o1
        by_cases he : n.a0 = (id : Int)
        · have b1 : (n.a0 == (id : Int)) = true := by simp [he]
          have hst := HST.out.not0 HOV.out
          have KI := Lib.hid (IH.out i hlt (by have := HM.out; omega) (H.out.below HB1.out))
          have HA := Lib.hid he
          clear he hst
          go_wp2_with fail
          refine KI.out.mono ?_
          rintro e w3 ⟨r, rfl, hr, hb3⟩
          have HR3 := Lib.hid hr
          have HB3 := Lib.hid (HB1.out.trans (hb3.mono HB1.out.size))
          have HX3 := Lib.hid (HX1.out.below hb3 HX1.out.lt)
          have HN3 := Lib.hid (HN1.out.below hb3 HN1.out.lt)
          clear hr hb3
          cases r with
          | true =>
            go_wp2
            go_ret
            exact TestIs.yes (hit_iff.2 ⟨i, .inl ⟨n, HG.out, HOV.out, HA.out, by have := HR3.out; simpa using this⟩⟩) HB3.out
          | false =>
            have HNO : Hid (¬ HitAt T i id) := Lib.hid (hit_no HG.out (fun _ _ h => by have := HR3.out.2 h; cases this) fun e => by rw [HOV.out] at e; cases e)
            obtain ⟨go, rfl⟩ : ∃ go : Nat, go = gk := ⟨_, rfl⟩
            go_wp2
            go_loopg [7] 0 (fun g v wx => v = .int .i64 0 ∧ Below w.heap.size w wx ∧ Blk wx w.heap.size 24 #[.slice (some ⟨b, off, none⟩) T.length c] ∧ Blk wx wo.heap.size 52 #[.int .i8 1, .int .i8 n.len, .int .i64 n.a0, .int .i64 n.a1, .int .i64 n.a2, .int .i64 n.sort, .int .i64 n.fn, .int .i64 n.num])
            case atStart => exact ⟨rfl, HB3.out, HX3.out, HN3.out⟩
            case round =>
              obtain ⟨rfl, hb, hbl, hbn⟩ := hrel
              have HB4 := Lib.hid hb
              have HX4 := Lib.hid hbl
              have z0 := hbn.cell 0
              have hlN := hbn.lt
              simp only [List.getElem?_toArray, List.getElem?_cons_zero] at z0
              clear hb hbl hbn
              go_wp2
              go_roundg go
              case measure => omega
              case rel =>
                refine ⟨i + 1, by omega, by go_num, HB4.out, HX4.out, fun p hp => ?_⟩
                rcases Nat.lt_succ_iff_lt_or_eq.1 hp with hp | rfl
                · exact HI.out p hp
                · exact HNO.out
        · have b1 : (n.a0 == (id : Int)) = false := by simp [he]
          have HNO : Hid (¬ HitAt T i id) := Lib.hid (hit_no HG.out (fun _ e => absurd e he) fun e => by rw [HOV.out] at e; cases e)
          clear he
          obtain ⟨go, rfl⟩ : ∃ go : Nat, go = gk := ⟨_, rfl⟩
          go_wp2
          go_loopg [7] 0 (fun g v wx => v = .int .i64 0 ∧ Below w.heap.size w wx ∧ Blk wx w.heap.size 24 #[.slice (some ⟨b, off, none⟩) T.length c] ∧ Blk wx wo.heap.size 52 #[.int .i8 1, .int .i8 n.len, .int .i64 n.a0, .int .i64 n.a1, .int .i64 n.a2, .int .i64 n.sort, .int .i64 n.fn, .int .i64 n.num])
          case atStart => exact ⟨rfl, HB1.out, HX1.out, HN1.out⟩
          case round =>
            obtain ⟨rfl, hb, hbl, hbn⟩ := hrel
            have HB4 := Lib.hid hb
            have HX4 := Lib.hid hbl
            have z0 := hbn.cell 0
            have hlN := hbn.lt
            simp only [List.getElem?_toArray, List.getElem?_cons_zero] at z0
            clear hb hbl hbn
            go_wp2
            go_roundg go
            case measure => omega
            case rel =>
              refine ⟨i + 1, by omega, by go_num, HB4.out, HX4.out, fun p hp => ?_⟩
              rcases Nat.lt_succ_iff_lt_or_eq.1 hp with hp | rfl
              · exact HI.out p hp
              · exact HNO.out
      · have b1 : (ov == 1) = false := by simp [o1]
        have HNO : Hid (¬ HitAt T i id) := Lib.hid (hit_no HG.out (fun e => by rw [HOV.out] at e; exact absurd e o1) fun e => by rw [HOV.out] at e; exact absurd e o13)
        clear o1 o13
        obtain ⟨go, rfl⟩ : ∃ go : Nat, go = gk := ⟨_, rfl⟩
        go_wp2
        go_loopg [7] 0 (fun g v wx => v = .int .i64 0 ∧ Below w.heap.size w wx ∧ Blk wx w.heap.size 24 #[.slice (some ⟨b, off, none⟩) T.length c] ∧ Blk wx wo.heap.size 52 #[.int .i8 ov, .int .i8 n.len, .int .i64 n.a0, .int .i64 n.a1, .int .i64 n.a2, .int .i64 n.sort, .int .i64 n.fn, .int .i64 n.num])
        case atStart => exact ⟨rfl, HB1.out, HX1.out, HN1.out⟩
        case round =>
          obtain ⟨rfl, hb, hbl, hbn⟩ := hrel
          have HB4 := Lib.hid hb
          have HX4 := Lib.hid hbl
          have z0 := hbn.cell 0
          have hlN := hbn.lt
          simp only [List.getElem?_toArray, List.getElem?_cons_zero] at z0
          clear hb hbl hbn
          go_wp2
          go_roundg go
          case measure => omega
          case rel =>
            refine ⟨i + 1, by omega, by go_num, HB4.out, HX4.out, fun p hp => ?_⟩
            rcases Nat.lt_succ_iff_lt_or_eq.1 hp with hp | rfl
            · exact HI.out p hp
            · exact HNO.out
end Go.Proofs.Ytbgbhfmchpdkcaa

/- The reference's alike. -/
import Derived.Test.YtbgbhfmchpdkcaaEwB
import Derived.Test.YtbgbhfmchpdkcaaEuO
import Derived.BigRegion
namespace Go.Proofs.Ytbgbhfmchpdkcaa
open Go.RowKit

/-- Two applications that must be one, by a row of classes. -/
def Alk (T : List Nd) (f : Int → Int) (i k : Nat) : Prop := ∃ n m, T[i]? = some n ∧ T[k]? = some m ∧ n.op = 13 ∧ m.op = 13 ∧ n.fn = m.fn ∧ n.len = m.len ∧ ∀ j : Nat, (j : Int) < n.len → f (n.arg j) = f (m.arg j)
theorem Tab.keptR {S : Nat → Prop} {w w1 : World} {A : Option Addr} {T : List Nd} (h : Tab w A T) (hA : ∀ a, A = some a → ¬ S a.block) (hk : Kept S w w1) : Tab w1 A T :=
  ⟨h.len, h.at_.imp id fun ⟨b, off, h1, h2, h3⟩ => ⟨b, off, h1, Nat.lt_of_lt_of_le h2 hk.size, fun j hj => ⟨Nat.lt_of_lt_of_le h2 hk.size, fun x hx => (by
    have := hk.block b h2 (hA _ h1)
    have e : w1.cell? ⟨b, off + j * 8 + x, none⟩ = w.cell? ⟨b, off + j * 8 + x, none⟩ := by unfold World.cell?; rw [this]
    rw [e]
    exact (h3 j hj).cells x hx), (h3 j hj).wf⟩⟩⟩

theorem NdAt.of_blk {w : World} {p : Nat} {n : Nd} (h : Blk w p 52 #[.int .i8 n.op, .int .i8 n.len, .int .i64 n.a0, .int .i64 n.a1, .int .i64 n.a2, .int .i64 n.sort, .int .i64 n.fn, .int .i64 n.num]) (hw : NdWf n) : NdAt w p 0 n :=
  ⟨h.lt, fun j hj => by rw [h.cell, Nat.zero_add, List.getElem?_toArray]; rfl, hw⟩
theorem two_at (w : World) (n m : Nd) (hn : NdWf n) (hm : NdWf m) {s : Nat} (hs : w.heap.size = s) : NdAt ((w.alloc (.cells #[.int .i8 n.op, .int .i8 n.len, .int .i64 n.a0, .int .i64 n.a1, .int .i64 n.a2, .int .i64 n.sort, .int .i64 n.fn, .int .i64 n.num] 52)).alloc (.cells #[.int .i8 m.op, .int .i8 m.len, .int .i64 m.a0, .int .i64 m.a1, .int .i64 m.a2, .int .i64 m.sort, .int .i64 m.fn, .int .i64 m.num] 52)).drew s 0 n ∧
    NdAt ((w.alloc (.cells #[.int .i8 n.op, .int .i8 n.len, .int .i64 n.a0, .int .i64 n.a1, .int .i64 n.a2, .int .i64 n.sort, .int .i64 n.fn, .int .i64 n.num] 52)).alloc (.cells #[.int .i8 m.op, .int .i8 m.len, .int .i64 m.a0, .int .i64 m.a1, .int .i64 m.a2, .int .i64 m.sort, .int .i64 m.fn, .int .i64 m.num] 52)).drew (s + 1) 0 m := by
  subst hs
  refine ⟨.of_blk (((Blk.new w _ _).alloc _).drew) hn, .of_blk (Blk.drew (Blk.new_at (by simp) _ _)) hm⟩
theorem alk_iff {T : List Nd} {f : Int → Int} {i k : Nat} {n m : Nd} (hn : T[i]? = some n) (hm : T[k]? = some m) : Alk T f i k ↔ n.op = 13 ∧ m.op = 13 ∧ n.fn = m.fn ∧ n.len = m.len ∧ ∀ j : Nat, (j : Int) < n.len → f (n.arg j) = f (m.arg j) := by
  constructor
  · rintro ⟨n', m', h1, h2, h⟩
    rw [hn] at h1
    rw [hm] at h2
    injection h1 with h1
    injection h2 with h2
    subst h1 h2
    exact h
  · exact fun h => ⟨n, m, hn, hm, h⟩
set_option maxRecDepth 100000 in
set_option maxHeartbeats 4000000 in
theorem alike_ok {w : World} {A : Option Addr} {c : Nat} {T : List Nd} {B g cp : Nat} {cs : List Int} (h : Tab w A T) (hT : TabOk T) (hc : Crow w B g (T.length + 1) cp cs) (i k : Nat) (hi : i < T.length) (hk : k < T.length) :
    Calls Try.prog 59 #[.agg #[.slice A T.length c], .slice (some ⟨g, 0, none⟩) (T.length + 1) cp, .int .i64 i, .int .i64 k] w (TestIs (Alk T (atC cs) i k) w) := by
  have HB0 := Lib.hid (show Below w.heap.size w (w.alloc (.cells #[.slice A T.length c] 24)) from (Below.refl _ w).alloc (Nat.le_refl _) _)
  have HX0 := Lib.hid (Blk.new w 24 #[.slice A T.length c])
  have H := Lib.hid h
  have HC := Lib.hid hc
  have HT := Lib.hid hT
  obtain ⟨b, off, hA, hbb, hcell⟩ := h.at_.resolve_left (by omega)
  subst hA
  have hn := hcell i hi
  have hm := hcell k hk
  have hnA := hn.wf
  obtain ⟨y0, y1, y2, y3, y4, y5, y6, y7⟩ := hn.all
  obtain ⟨x0, x1, x2, x3, x4, x5, x6, x7⟩ := hm.all
  have HN := Lib.hid (List.getElem?_eq_getElem hi)
  have HM := Lib.hid (List.getElem?_eq_getElem hk)
  have HWn := Lib.hid hn.wf
  have HWm := Lib.hid hm.wf
  have HSn := Lib.hid (HT.out.st i _ (List.getElem?_eq_getElem hi))
  have HSm := Lib.hid (HT.out.st k _ (List.getElem?_eq_getElem hk))
  have t1 : (0 : Int) ≤ (i : Int) := by omega
  have t2 : (i : Int) < (T.length : Int) := by omega
  have t3 : (0 : Int) ≤ (k : Int) := by omega
  have t4 : (k : Int) < (T.length : Int) := by omega
  clear h hc hT hcell hn hm hnA
  generalize T[i] = n at *
  generalize T[k] = m at *
  go_enter Try.func59, Try.ntmps59
  have hb1 : b < w.heap.size + 1 := by omega
  have hb2 : b < w.heap.size + 1 + 1 := by omega
  have hb3 : b < w.heap.size + 2 := by omega
  go_upto_region 1 with (fail)
  go_cut [9, 10] from 12 (fun v9 v10 wc => ∃ p q, v9 = .pointer (some ⟨p, 0, none⟩) ∧ v10 = .pointer (some ⟨q, 0, none⟩) ∧ NdAt wc p 0 n ∧ NdAt wc q 0 m ∧ Below w.heap.size w wc)
  case first =>
    have HBd : ∀ (c1 c2 : Array Value), Below w.heap.size w ((((w.alloc (.cells #[.slice (some ⟨b, off, none⟩) T.length c] 24)).alloc (.cells c1 52)).alloc (.cells c2 52)).drew) := fun c1 c2 => below_drewN ((HB0.out.alloc HB0.out.size _).alloc (Nat.le_trans HB0.out.size (by simp)) _) 1
    have HBD := Lib.hid HBd
    have H1 := Lib.hid (two_at (w.alloc (.cells #[.slice (some ⟨b, off, none⟩) T.length c] 24)) n m HWn.out HWm.out (s := w.heap.size + 1) (by simp))
    have H2 := Lib.hid (two_at (w.alloc (.cells #[.slice (some ⟨b, off, none⟩) T.length c] 24)) m n HWm.out HWn.out (s := w.heap.size + 1) (by simp))
    clear HBd
    go_region
    all_goals go_wp2
    all_goals go_meet
    · exact ⟨_, _, rfl, rfl, H1.out.1, H1.out.2, HBD.out _ _⟩
    · exact ⟨_, _, rfl, rfl, H2.out.2, H2.out.1, HBD.out _ _⟩
  case rest =>
    obtain ⟨p, q, rfl, rfl, hp, hq, hb⟩ := hcut
    have HP := Lib.hid hp
    have HQ := Lib.hid hq
    have HBc := Lib.hid hb
    obtain ⟨z0, z1, _, _, _, _, z6, _⟩ := hp.all
    obtain ⟨v0, v1, _, _, _, _, v6, _⟩ := hq.all
    simp only [Nat.zero_add] at z0 z1 z6 v0 v1 v6
    have hpl := hp.lt
    have hql := hq.lt
    have r1 := HWn.out.len
    clear hp hq hb y0 y1 y2 y3 y4 y5 y6 y7 x0 x1 x2 x3 x4 x5 x6 x7 hb1 hb2 hb3
    by_cases o1 : n.op = 13
    rotate_left
    · have b1 : (n.op != 13) = true := by simp [o1]
      have HO := Lib.hid o1
      clear o1
      go_wp2
      go_ret
      exact TestIs.no (fun h => HO.out ((alk_iff HN.out HM.out).1 h).1) HBc.out
    have b1 : (n.op != 13) = false := by simp [o1]
    have HO1 := Lib.hid o1
    clear o1
    by_cases o2 : m.op = 13
    rotate_left
    · have b2 : (m.op != 13) = true := by simp [o2]
      have HO := Lib.hid o2
      clear o2
      go_wp2
      go_ret
      exact TestIs.no (fun h => HO.out ((alk_iff HN.out HM.out).1 h).2.1) HBc.out
    have b2 : (m.op != 13) = false := by simp [o2]
    have HO2 := Lib.hid o2
    clear o2
    by_cases o3 : n.fn = m.fn
    rotate_left
    · have b3 : (n.fn != m.fn) = true := by simp [o3]
      have HO := Lib.hid o3
      clear o3
      go_wp2
      go_ret
      exact TestIs.no (fun h => HO.out ((alk_iff HN.out HM.out).1 h).2.2.1) HBc.out
    have b3 : (n.fn != m.fn) = false := by simp [o3]
    have HO3 := Lib.hid o3
    clear o3
    by_cases o4 : n.len = m.len
    rotate_left
    · have b4 : (n.len != m.len) = true := by simp [o4]
      have HO := Lib.hid o4
      clear o4
      go_wp2
      go_ret
      exact TestIs.no (fun h => HO.out ((alk_iff HN.out HM.out).1 h).2.2.2.1) HBc.out
    have b4 : (n.len != m.len) = false := by simp [o4]
    have HO4 := Lib.hid o4
    clear o4
    have HRn := Lib.hid HSn.out.args
    have HRm := Lib.hid HSm.out.args
    have h3 := HSn.out.len
    go_wp2
    go_loopg [11] n.len.toNat (fun gk v wx => ∃ j : Nat, j + gk = n.len.toNat ∧ v = .int .i64 j ∧ Below wc.heap.size wc wx ∧ ∀ j' : Nat, j' < j → atC cs (n.arg j') = atC cs (m.arg j'))
    case atStart => exact ⟨0, by omega, rfl, Below.refl _ _, fun j' hj => absurd hj (Nat.not_lt_zero _)⟩
    case round =>
      obtain ⟨j, hjg, rfl, hb, hinv⟩ := hrel
      have HBV := Lib.hid hb
      have HBW := Lib.hid (HBc.out.trans (hb.mono HBc.out.size))
      have HI := Lib.hid hinv
      have HNj := Lib.hid (HP.out.below hb)
      have HMj := Lib.hid (HQ.out.below hb)
      obtain ⟨_, z1, _, _, _, _, _, _⟩ := HNj.out.all
      simp only [Nat.zero_add] at z1
      have hpl2 := HNj.out.lt
      have hql2 := HMj.out.lt
      clear hb hinv z0 z6 v0 v1 v6
      cases gk with
      | zero =>
        have d2 : decide ((j : Int) < n.len) = false := decide_eq_false (by omega)
        have HJ := Lib.hid (show n.len = j by omega)
        go_wp2
        go_ret
        refine TestIs.yes ((alk_iff HN.out HM.out).2 ⟨HO1.out, HO2.out, HO3.out, HO4.out, fun j' hj => HI.out j' (by have := HJ.out; omega)⟩) HBW.out
      | succ g2 =>
        have d2 : decide ((j : Int) < n.len) = true := decide_eq_true (by omega)
        have hj3 : j < 3 := by omega
        have HJ := Lib.hid (show (j : Int) < n.len by omega)
        have z2 := HNj.out.arg j hj3
        have v2 := HMj.out.arg j hj3
        simp only [Nat.zero_add] at z2 v2
        have ra := (HRn.out j hj3).1 HJ.out
        have rb := (HRm.out j hj3).1 (by rw [← HO4.out]; exact HJ.out)
        obtain ⟨av, hav⟩ : ∃ av : Nat, n.arg j = av := ⟨(n.arg j).toNat, by omega⟩
        obtain ⟨bv, hbv⟩ : ∃ bv : Nat, m.arg j = bv := ⟨(m.arg j).toNat, by omega⟩
        rw [hav] at z2 ra
        rw [hbv] at v2 rb
        have HAV := Lib.hid hav
        have HBv := Lib.hid hbv
        have y8 := (HC.out.below HBW.out).cell (i := av) (by omega)
        have y9 := (HC.out.below HBW.out).cell (i := bv) (by omega)
        have s1 : (0 : Int) ≤ (av : Int) := by omega
        have s2 : (av : Int) < (T.length : Int) + 1 := by omega
        have s3 : (0 : Int) ≤ (bv : Int) := by omega
        have s4 : (bv : Int) < (T.length : Int) + 1 := by omega
        have s5 : (0 : Int) ≤ (j : Int) := by omega
        have s6 : (j : Int) < 3 := by omega
        obtain ⟨e1, he1⟩ : ∃ e1, atC cs (av : Int) = e1 := ⟨_, rfl⟩
        obtain ⟨e2, he2⟩ : ∃ e2, atC cs (bv : Int) = e2 := ⟨_, rfl⟩
        rw [he1] at y8
        rw [he2] at y9
        have HE1 : Hid (atC cs (n.arg j) = e1) := Lib.hid (by rw [hav]; exact he1)
        have HE2 : Hid (atC cs (m.arg j) = e2) := Lib.hid (by rw [hbv]; exact he2)
        clear hav hbv he1 he2 ra rb
        by_cases he : e1 = e2
        · have b5 : (e1 != e2) = false := by simp [he]
          have HEE := Lib.hid he
          clear he
          go_wp2
          go_quiet (fail)
          go_wp2
          go_roundg g2
          case measure => omega
          case rel =>
            refine ⟨j + 1, by omega, by go_num, below_drewN HBV.out _, fun j' hj => ?_⟩
            rcases Nat.lt_succ_iff_lt_or_eq.1 hj with hj | rfl
            · exact HI.out j' hj
            · rw [HE1.out, HE2.out, HEE.out]
        · have b5 : (e1 != e2) = true := by simp [he]
          have HEE := Lib.hid he
          clear he
          go_wp2
          go_quiet (fail)
          go_wp2
          go_ret
          exact TestIs.no (fun h => HEE.out (by rw [← HE1.out, ← HE2.out]; exact ((alk_iff HN.out HM.out).1 h).2.2.2.2 j HJ.out)) (below_drewN HBW.out _)
end Go.Proofs.Ytbgbhfmchpdkcaa

/- The reference's apps. -/
namespace Go.Proofs.Ytbgbhfmchpdkcaa
open Go.RowKit

/-- What apps leaves: whether something was joined; else all applications are right. -/
def AppsIs (T : List Nd) (S : Int → Prop) (B g n cp : Nat) (cs : List Int) (w : World) (e : Ending) (w' : World) : Prop := ∃ (r : Bool) (ds : List Int), e = .returned (.bool r) ∧ Crow w' B g n cp ds ∧ NSt T S cs ds r ∧ (r = false → ∀ i k : Nat, k < i → Alk T (atC cs) i k → atC cs i = atC cs k) ∧ Kept (fun k => k = g) w w'
theorem Alk.lt {T : List Nd} {f : Int → Int} {i k : Nat} (h : Alk T f i k) : i < T.length ∧ k < T.length := by
  obtain ⟨n, m, h1, h2, _⟩ := h
  exact ⟨(List.getElem?_eq_some_iff.1 h1).1, (List.getElem?_eq_some_iff.1 h2).1⟩
theorem Alk.cg {T : List Nd} {S : Int → Prop} {cs ds : List Int} {sm : Bool} (hT : TabOk T) (hs : NSt T S cs ds sm) {i k : Nat} (h : Alk T (atC ds) i k) : Cg T S i k := by
  obtain ⟨n, m, h1, h2, o1, o2, o3, o4, o5⟩ := h
  refine .app h1 h2 o1 o2 o3 o4 fun j hj => ?_
  have hn := hT.st i n h1
  have hm := hT.st k m h2
  have l1 := (List.getElem?_eq_some_iff.1 h1).1
  have l2 := (List.getElem?_eq_some_iff.1 h2).1
  have h3 := hn.len
  have ra := (hn.args j (by omega)).1 hj
  have rb := (hm.args j (by omega)).1 (by rw [← o4]; exact hj)
  exact hs.cg ⟨ra.1, by omega⟩ ⟨rb.1, by omega⟩ (o5 j hj)

set_option maxRecDepth 100000 in
set_option maxHeartbeats 4000000 in
theorem apps_ok {w : World} {A : Option Addr} {c : Nat} {T : List Nd} {S : Int → Prop} {B g cp : Nat} {cs : List Int} (h : Tab w A T) (hAg : ∀ a, A = some a → a.block ≠ g) (hT : TabOk T) (hT1 : T.length ≤ 60) (hL : ∀ x, S x → LitMay T x) (hc : Crow w B g (T.length + 1) cp cs) (ho : RefOk T S cs) (hh : Has T S (atC cs)) :
    Calls Try.prog 30 #[.agg #[.slice A T.length c], .slice (some ⟨g, 0, none⟩) (T.length + 1) cp] w (AppsIs T S B g (T.length + 1) cp cs w) := by
  have HX0 := Lib.hid (Blk.new w 24 #[.slice A T.length c])
  have HC0 := Lib.hid (hc.below ((Below.refl _ w).alloc (Nat.le_refl _) (.cells #[.slice A T.length c] 24)))
  have HK0 : Hid (Kept (fun k => k = g) w (w.alloc (.cells #[.slice A T.length c] 24))) := Lib.hid ((Kept.refl _ w).alloc _)
  have HGX : Hid (¬ w.heap.size = g) := Lib.hid (by have := hc.lt.2; omega)
  have H := Lib.hid h
  have HT := Lib.hid hT
  have HLL := Lib.hid hL
  have HAg := Lib.hid hAg
  have HST := Lib.hid (NSt.start ho hh)
  clear h hAg hT hL hc ho hh
  go_enter Try.func30, Try.ntmps30
  go_wp2
  go_loopg [5, 6] T.length (fun gk vs vi wr => ∃ (i : Nat) (sm : Bool) (ds : List Int), i + gk = T.length ∧ vs = .bool sm ∧ vi = .int .i64 i ∧ Crow wr B g (T.length + 1) cp ds ∧ NSt T S cs ds sm ∧ (sm = false → ∀ i' k' : Nat, k' < i' → i' < i → Alk T (atC cs) i' k' → atC cs i' = atC cs k') ∧ Kept (fun k => k = g) w wr ∧ Blk wr w.heap.size 24 #[.slice A T.length c])
  case atStart => exact ⟨0, false, cs, by omega, rfl, rfl, HC0.out, HST.out, fun _ j m _ hj => absurd hj (Nat.not_lt_zero _), HK0.out, HX0.out⟩
  case round =>
    obtain ⟨i, sm, ds, hig, rfl, rfl, hc, hst, hok, hk, hbl⟩ := hrel
    have HC := Lib.hid hc
    have HS := Lib.hid hst
    have HOK := Lib.hid hok
    have HK := Lib.hid hk
    have HX := Lib.hid hbl
    have c0 := hbl.cell 0
    have hls := hbl.lt
    simp only [List.getElem?_toArray, List.getElem?_cons_zero] at c0
    clear hc hst hok hk hbl
    cases gk with
    | zero =>
      obtain rfl : i = T.length := by omega
      have d1 : decide ((T.length : Int) < T.length) = false := by simp
      go_wp2
      go_ret
      exact ⟨sm, ds, rfl, HC.out, HS.out, fun e j m hj ha => HOK.out e j m hj ha.lt.1 ha, HK.out⟩
    | succ gk =>
      have hlt : i < T.length := by omega
      have d1 : decide ((i : Int) < T.length) = true := by simp; omega
      obtain ⟨go, rfl⟩ : ∃ go : Nat, go = gk := ⟨_, rfl⟩
      obtain ⟨wo, rfl⟩ : ∃ wo : World, wo = wr := ⟨_, rfl⟩
      obtain ⟨so, rfl⟩ : ∃ so : Bool, so = sm := ⟨_, rfl⟩
      go_wp2
      go_loopg [5, 7] i (fun gk vs vk wr => ∃ (k : Nat) (sm : Bool) (ds : List Int), k + gk = i ∧ vs = .bool sm ∧ vk = .int .i64 k ∧ Crow wr B g (T.length + 1) cp ds ∧ NSt T S cs ds sm ∧ (sm = false → so = false ∧ ∀ k' : Nat, k' < k → Alk T (atC cs) i k' → atC cs i = atC cs k') ∧ Kept (fun k => k = g) w wr ∧ Blk wr w.heap.size 24 #[.slice A T.length c])
      case atStart => exact ⟨0, so, ds, by omega, rfl, rfl, HC.out, HS.out, fun e => ⟨e, fun k' hk => absurd hk (Nat.not_lt_zero _)⟩, HK.out, HX.out⟩
      case round =>
        obtain ⟨k, sm, ds1, hkg, rfl, rfl, hc, hst, hok, hk, hbl⟩ := hrel
        have HC1 := Lib.hid hc
        have HS1 := Lib.hid hst
        have HOK1 := Lib.hid hok
        have HK1 := Lib.hid hk
        have HX1 := Lib.hid hbl
        have c1 := hbl.cell 0
        have hls1 := hbl.lt
        simp only [List.getElem?_toArray, List.getElem?_cons_zero] at c1
        clear hc hst hok hk hbl c0 hls
        cases gk with
        | zero =>
          obtain rfl : k = i := by omega
          have d2 : decide ((k : Int) < k) = false := by simp
          go_wp2
          go_roundg go
          case measure => omega
          case rel =>
            refine ⟨k + 1, sm, ds1, by omega, rfl, by go_num, HC1.out, HS1.out, fun e i' k' hk hi ha => ?_, HK1.out, HX1.out⟩
            obtain ⟨e0, h2⟩ := HOK1.out e
            rcases Nat.lt_succ_iff_lt_or_eq.1 hi with hi | rfl
            · exact HOK.out e0 i' k' hk hi ha
            · exact h2 k' hk ha
        | succ g2 =>
          have hlt2 : k < i := by omega
          have d2 : decide ((k : Int) < i) = true := by simp; omega
          have KA := Lib.hid (alike_ok (c := c) (H.out.keptR (fun a e hs => HAg.out a e hs) HK1.out) HT.out HC1.out i k hlt (by omega))
          go_wp2_with fail
          refine KA.out.mono ?_
          rintro e w2 ⟨r, rfl, hr, hb2⟩
          have HC2 := Lib.hid (HC1.out.below hb2)
          have HK2 := Lib.hid (HK1.out.then_below hb2)
          have HX2 := Lib.hid (HX1.out.below hb2 HX1.out.lt)
          have HR2 := Lib.hid hr
          clear hr hb2
          cases r with
          | false =>
            go_wp2_with fail
            go_roundg g2
            case measure => omega
            case rel =>
              refine ⟨k + 1, sm, ds1, by omega, rfl, by go_num, HC2.out, HS1.out, fun e => ?_, HK2.out, HX2.out⟩
              obtain ⟨e0, h2⟩ := HOK1.out e
              refine ⟨e0, fun k' hk ha => ?_⟩
              rcases Nat.lt_succ_iff_lt_or_eq.1 hk with hk | rfl
              · exact h2 k' hk ha
              · rw [← HS1.out.same e] at ha
                have := HR2.out.2 ha
                cases this
          | true =>
            have HCG := Lib.hid (Alk.cg HT.out HS1.out (HR2.out.1 rfl))
            have KJ := Lib.hid (rjoin_ok HC2.out (by omega) (a := (i : Int)) (b := (k : Int)) ⟨by omega, by omega⟩ ⟨by omega, by omega⟩)
            go_wp2_with fail
            refine KJ.out.mono ?_
            rintro e w3 ⟨r, rfl, hr, hc3, hk3⟩
            have HC3 := Lib.hid hc3
            have HN3 := Lib.hid (NSt.join HT.out HLL.out HS1.out (a := (i : Int)) (b := (k : Int)) ⟨by omega, by omega⟩ ⟨by omega, by omega⟩ HCG.out hr)
            have HR3 := Lib.hid hr
            have HK3 := Lib.hid (HK2.out.trans hk3)
            have HX3 := Lib.hid (HX2.out.kept hk3 HGX.out)
            clear hc3 hr hk3
            cases r with
            | true =>
              go_wp2_with fail
              go_roundg g2
              case measure => omega
              case rel =>
                refine ⟨k + 1, true, _, by omega, rfl, by go_num, HC3.out, HN3.out, fun e => (by cases e), HK3.out, HX3.out⟩
            | false =>
              go_wp2_with fail
              go_roundg g2
              case measure => omega
              case rel =>
                refine ⟨k + 1, sm, _, by omega, rfl, by go_num, HC3.out, HN3.out, fun e => ?_, HK3.out, HX3.out⟩
                obtain ⟨e0, h2⟩ := HOK1.out e
                refine ⟨e0, fun k' hk ha => ?_⟩
                rcases Nat.lt_succ_iff_lt_or_eq.1 hk with hk | rfl
                · exact h2 k' hk ha
                · rw [← HS1.out.same e]
                  exact Classical.byContradiction fun hn => by have := HR3.out.2 hn; cases this
end Go.Proofs.Ytbgbhfmchpdkcaa

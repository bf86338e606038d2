/- The reference's size, GreatSexp. -/
import Derived.Test.YtiklliiamljogaaGreatDoorPfT
import Derived.Test.YtiklliiamljogaaGreatDoorTreeJ
import Derived.Test.YtiklliiamljogaaGreatDoorPfA
import Derived.Test.YtiklliiamljogaaGreatDoorSameRef
import Derived.Test.YtiklliiamljogaaGreatDoorPgI
namespace Go.Proofs.YtiklliiamljogaaGreatDoor
open Go.RowKit

mutual
/-- How great, counted up to m. -/
def Sx.cnt : Sx → Nat → Nat
  | .mk _ t l, m => Sx.cnts l m (1 + min t.length 5000)
def Sx.cnts : List Sx → Nat → Nat → Nat
  | [], _, n => n
  | x :: r, m, n => if n < m then Sx.cnts r m (n + x.cnt (m - n)) else n
end
mutual
theorem cnt_le : ∀ (x : Sx) (m : Nat), 1 ≤ m → x.cnt m ≤ m + 5000
  | .mk _ t l, m, hm => by rw [Sx.cnt]; exact cnts_le l m _ (by omega)
theorem cnts_le : ∀ (l : List Sx) (m n : Nat), n ≤ m + 5000 → Sx.cnts l m n ≤ m + 5000
  | [], m, n, h => by rw [Sx.cnts]; exact h
  | x :: r, m, n, h => by
    rw [Sx.cnts]
    split
    · have := cnt_le x (m - n) (by omega)
      exact cnts_le r m _ (by omega)
    · exact h
end
theorem cnts_ge : ∀ (l : List Sx) (m n : Nat), n ≤ Sx.cnts l m n
  | [], m, n => by rw [Sx.cnts]; exact Nat.le_refl _
  | x :: r, m, n => by
    rw [Sx.cnts]
    split
    · exact Nat.le_trans (Nat.le_add_right _ _) (cnts_ge r m _)
    · exact Nat.le_refl _
mutual
theorem cnt_mass : ∀ (x : Sx) (m : Nat), m ≤ 4000 → x.cnt m < m → x.mass = x.cnt m
  | .mk _ t l, m, hm, h => by
    rw [Sx.cnt] at h ⊢
    have := cnts_ge l m (1 + min t.length 5000)
    rw [Sx.mass, ← cnts_mass l m _ hm h]
    omega
theorem cnts_mass : ∀ (l : List Sx) (m n : Nat), m ≤ 4000 → Sx.cnts l m n < m → n + Sx.masses l = Sx.cnts l m n
  | [], m, n, _, _ => by rw [Sx.cnts, Sx.masses]; rfl
  | x :: r, m, n, hm, h => by
    rw [Sx.cnts] at h ⊢
    split at h
    · rename_i hn
      rw [if_pos hn]
      have h1 := cnts_ge r m (n + x.cnt (m - n))
      have h2 := cnt_mass x (m - n) (by omega) (by omega)
      rw [Sx.masses, ← cnts_mass r m _ hm h]
      omega
    · rename_i hn
      omega
end

set_option maxHeartbeats 1000000 in
set_option maxRecDepth 100000 in
theorem rcnt_ok {S : Nat → Prop} (x : Sx) : ∀ (m : Nat) (v : Value) (w : World), 1 ≤ m → m ≤ 4000 → Lies S w v x → Calls Tryz.prog 33 #[v, .int .i64 m] w fun e w' => e = .returned (.int .i64 (x.cnt m)) ∧ Below w.heap.size w w' := by
  induction x using Sx.ind with
  | h k T l ih =>
  intro m v w hm1 hm2 hv
  obtain ⟨t, A, c, rfl, rfl, hlc, hnil, hmax, hk⟩ := hv.open_
  obtain ⟨R, hR⟩ : ∃ R, (Sx.mk k (byts t) l).cnt m = R := ⟨_, rfl⟩
  have hR2 : Sx.cnts l m (1 + min t.size 5000) = R := by rw [← hR, Sx.cnt, byts_len]
  rw [hR]
  have HI := Lib.hid ih
  have HK := Lib.hid hk
  have HR := Lib.hid hR2
  clear ih hk hnil hv hR hR2
  have hmin : min (t.size : Int) 5000 = ((min t.size 5000 : Nat) : Int) := by omega
  go_enter Tryz.func33, Tryz.ntmps33
  go_wp2
  have hbx := Blk.new w 28 #[.int .i8 k, .string t, .slice A l.length c]
  have hB0 : Below w.heap.size w (w.alloc (.cells #[.int .i8 k, .string t, .slice A l.length c] 28)) := (Below.refl _ w).alloc (Nat.le_refl _) _
  generalize w.alloc (.cells #[.int .i8 k, .string t, .slice A l.length c] 28) = w0 at *
  have hlt0 := hbx.lt
  go_loopw [5, 6] (fun d v wx => Below w0.heap.size w0 wx ∧ ∃ i n : Nat, i ≤ l.length ∧ v = .int .i64 i ∧ d = .int .i64 n ∧ n ≤ 9000 ∧ Sx.cnts (l.drop i) m n = R) (fun _ v _ => (l.length - intOf v).toNat)
  case atStart => exact ⟨Below.refl _ _, 0, 1 + min t.size 5000, Nat.zero_le _, rfl, by first | rfl | (congr 1; omega) | (simp; omega), by omega, HR.out⟩
  case round =>
    obtain ⟨hBx, i, n, hi, rfl, rfl, hn, hsz⟩ := hrel
    have hB := hB0.trans (hBx.mono (Nat.le_of_lt hlt0))
    have x2 := (hbx.below hBx hlt0).cell 2
    simp only [List.getElem?_toArray, List.getElem?_cons_zero, List.getElem?_cons_succ] at x2
    have HZ := Lib.hid hsz
    clear hsz HR
    by_cases hin : i < l.length
    · have hiz : (i : Int) < (l.length : Int) := by omega
      have d1 : decide ((i : Int) < l.length) = true := decide_eq_true hiz
      have hdr : Sx.cnts (l.drop i) m n = if n < m then Sx.cnts (l.drop (i + 1)) m (n + (l[i]).cnt (m - n)) else n := by rw [List.drop_eq_getElem_cons hin, Sx.cnts]
      by_cases h4 : n < m
      · have d2 : decide ((n : Int) < m) = true := decide_eq_true (by omega)
        rw [if_pos h4] at hdr
        obtain ⟨b, off, k1, t1, B1, n1, m1, rfl, _, hlt, h0, h1, h2, hy⟩ := (HK.out.keep hB) i hin
        obtain ⟨q, hq⟩ : ∃ q, m - n = q := ⟨_, rfl⟩
        have hqz : (m : Int) - (n : Int) = (q : Int) := by omega
        rw [hq] at hdr
        have HY := Lib.hid (HI.out (l[i]) (List.getElem_mem hin) q _ wr (by omega) (by omega) hy)
        have hys := cnt_le (l[i]) q (by omega)
        have HD := Lib.hid hdr
        obtain ⟨ys, hyq⟩ : ∃ ys, (l[i]).cnt q = ys := ⟨_, rfl⟩
        rw [hyq] at HY HD hys
        clear HI HK hy hyq hdr
        go_wp2_with (go_at_call 33; refine HY.out.mono ?_; rintro e w1 ⟨rfl, hb1⟩)
        go_roundw
        case rel => exact ⟨hBx.trans (hb1.mono hBx.size), i + 1, n + ys, by omega, by go_num, by go_num, by omega, by rw [← HZ.out, HD.out]⟩
        case measure => simp only [intOf]; omega
      · have d2 : decide ((n : Int) < m) = false := decide_eq_false (by omega)
        have d3 : decide (n < m) = false := decide_eq_false h4
        rw [if_neg h4] at hdr
        have HE := Lib.hid (HZ.out.symm.trans hdr)
        clear HI HK hdr h4
        go_wp2
        go_ret
        exact ⟨by rw [HE.out]; rfl, hB⟩
    · have d1 : decide ((i : Int) < l.length) = false := decide_eq_false (by omega)
      have HE := Lib.hid (show R = n by rw [← HZ.out, List.drop_eq_nil_of_le (by omega), Sx.cnts])
      clear HI HK
      go_wp2
      go_ret
      exact ⟨by rw [HE.out]; rfl, hB⟩
/-- GreatSexp: what is not too great is small in all. -/
def Sx.greatX (x : Sx) : Bool := decide (4000 ≤ x.cnt 4000)
theorem greatX_mass {x : Sx} (h : x.greatX = false) : x.mass < 4000 := by
  have h1 : ¬ 4000 ≤ x.cnt 4000 := of_decide_eq_false h
  rw [cnt_mass x 4000 (Nat.le_refl _) (by omega)]
  omega
theorem greatx_ok {S : Nat → Prop} (x : Sx) (v : Value) (w : World) (hv : Lies S w v x) :
    Calls Tryz.prog 15 #[v] w fun e w' => e = .returned (.bool x.greatX) ∧ Below w.heap.size w w' := by
  obtain ⟨y, rfl⟩ := hv.c3
  have hb : Below w.heap.size w (w.alloc (.cells #[.int .i8 y.k, .string y.t, .slice y.A y.n y.c] 28)) := (Below.refl _ w).alloc (Nat.le_refl _) _
  have HC := Lib.hid (rcnt_ok x 4000 _ _ (by omega) (Nat.le_refl _) (hv.keep hb))
  have HB := Lib.hid hb
  have hc2 := cnt_le x 4000 (by omega)
  have hg : x.greatX = decide ((4000 : Int) ≤ (x.cnt 4000 : Nat)) := by
    unfold Sx.greatX
    by_cases h : 4000 ≤ x.cnt 4000
    · rw [decide_eq_true h]; exact (decide_eq_true (by omega)).symm
    · rw [decide_eq_false h]; exact (decide_eq_false (by omega)).symm
  obtain ⟨n, hn⟩ : ∃ n, x.cnt 4000 = n := ⟨_, rfl⟩
  rw [hn] at HC hc2 hg
  obtain ⟨g, hgg⟩ : ∃ g, x.greatX = g := ⟨_, rfl⟩
  rw [hgg] at hg ⊢
  have d1 : decide ((n : Int) ≥ 4000) = g := hg.symm
  have d2 : decide ((4000 : Int) ≤ n) = g := hg.symm
  unfold C3.val at HC ⊢
  clear hg hn hgg hv hb
  go_enter Tryz.func15, Tryz.ntmps15
  go_wp2_with (go_at_call 33; refine HC.out.mono ?_; rintro e w1 ⟨rfl, hb1⟩)
  go_ret
  exact ⟨rfl, HB.out.trans (hb1.mono HB.out.size)⟩
end Go.Proofs.YtiklliiamljogaaGreatDoor

/- Same of steps. -/
namespace Go.Proofs.YtiklliiamljogaaGreatDoor
open Go.RowKit

def Stp.eqb (s t : Stp) : Bool := (s.k == t.k) && ((s.a == t.a) && ((s.b == t.b) && (s.l == t.l)))
def eqbs : List Stp → List Stp → Bool
  | [], [] => true
  | x :: l, y :: m => x.eqb y && eqbs l m
  | _, _ => false
theorem Stp.eqb_eq (s t : Stp) : s.eqb t = true ↔ s = t := by
  obtain ⟨k, a, b, l⟩ := s
  obtain ⟨k', a', b', l'⟩ := t
  unfold Stp.eqb
  simp only [Bool.and_eq_true, beq_iff_eq, Stp.mk.injEq]
theorem eqbs_eq : ∀ (l m : List Stp), eqbs l m = true ↔ l = m
  | [], [] => by simp [eqbs]
  | [], _ :: _ => by simp [eqbs]
  | _ :: _, [] => by simp [eqbs]
  | x :: l, y :: m => by
    rw [eqbs, Bool.and_eq_true, Stp.eqb_eq, eqbs_eq l m, List.cons.injEq]
theorem eqbs_len (l m : List Stp) (h : l.length ≠ m.length) : eqbs l m = false := by
  cases e : eqbs l m with
  | false => rfl
  | true => rw [(eqbs_eq l m).1 e] at h; exact absurd rfl h
theorem eqbs_take (l m : List Stp) (i : Nat) (h1 : i < l.length) (h2 : i < m.length) : eqbs (l.take (i + 1)) (m.take (i + 1)) = (eqbs (l.take i) (m.take i) && (l[i]).eqb (m[i])) := by
  induction l generalizing m i with
  | nil => simp at h1
  | cons x r ih =>
    cases m with
    | nil => simp at h2
    | cons y s =>
      cases i with
      | zero => simp [eqbs]
      | succ i =>
        have := ih s i (by simpa using h1) (by simpa using h2)
        simp only [List.take_succ_cons, eqbs, List.getElem_cons_succ]
        rw [this, Bool.and_assoc]
theorem eqbs_not (l m : List Stp) (i : Nat) (h1 : i < l.length) (h2 : i < m.length) (h : (l[i]).eqb (m[i]) = false) : eqbs l m = false := by
  cases e : eqbs l m with
  | false => rfl
  | true =>
    have e := (eqbs_eq l m).1 e
    subst e
    rw [(Stp.eqb_eq _ _).2 rfl] at h
    cases h

theorem csame_ok {w : World} {A B : Option Addr} {xs ys : List Int} (c d : Nat) (h : Row .i64 w A xs) (k : Row .i64 w B ys) :
    Calls Tryz.prog 50 #[.slice A xs.length c, .slice B ys.length d] w fun e w' => e = .returned (.bool (xs == ys)) ∧ ∃ q, w' = w.drewN q := by
  have HE := Lib.hid (equal_ok c d h k)
  clear h k
  go_enter Tryz.func50, Tryz.ntmps50
  go_wp2_with (go_at_call 66; refine HE.out.mono ?_; rintro e w1 ⟨rfl, q, rfl⟩)
  go_ret
  exact ⟨rfl, q, rfl⟩

set_option maxHeartbeats 2000000 in
set_option maxRecDepth 100000 in
theorem same1_ok (s t : Stp) (w : World) (y z : C4) (h : Is4 w y s) (k : Is4 w z t) :
    Calls Tryz.prog 49 #[y.val, z.val] w fun e w' => e = .returned (.bool (s.eqb t)) ∧ Below w.heap.size w w' := by
  obtain ⟨yk, ya, yb, yA, yn, yc⟩ := y
  obtain ⟨zk, za, zb, zA, zn, zc⟩ := z
  obtain ⟨hk, ha, hb, hn, hc, _, hr⟩ := h
  obtain ⟨kk, ka, kb, kn, kc, _, kr⟩ := k
  dsimp only at hk ha hb hn hc hr kk ka kb kn kc kr
  subst hk ha hb hn kk ka kb kn
  have hB0 : Below w.heap.size w ((w.alloc (.cells #[.int .i8 s.k, .int .i64 s.a, .int .i64 s.b, .slice yA s.l.length yc] 46)).alloc (.cells #[.int .i8 t.k, .int .i64 t.a, .int .i64 t.b, .slice zA t.l.length zc] 46)) := ((Below.refl _ w).alloc (Nat.le_refl _) _).alloc (by simp) _
  have HS := Lib.hid (csame_ok yc zc (hr.below hB0) (kr.below hB0))
  have HB0 := Lib.hid hB0
  clear hB0 hr kr
  unfold C4.val Stp.eqb
  obtain ⟨xs, hxs⟩ : ∃ xs, s.l = xs := ⟨_, rfl⟩
  obtain ⟨ys, hys⟩ : ∃ ys, t.l = ys := ⟨_, rfl⟩
  rw [hxs] at HS HB0 ⊢
  rw [hys] at HS HB0 ⊢
  cases hkk : s.k == t.k with
  | false =>
    go_enter Tryz.func49, Tryz.ntmps49
    go_wp2
    go_ret
    exact ⟨rfl, HB0.out⟩
  | true =>
    cases haa : s.a == t.a with
    | false =>
      go_enter Tryz.func49, Tryz.ntmps49
      go_wp2
      go_ret
      exact ⟨rfl, HB0.out⟩
    | true =>
      cases hbb : s.b == t.b with
      | false =>
        go_enter Tryz.func49, Tryz.ntmps49
        go_wp2
        go_ret
        exact ⟨rfl, HB0.out⟩
      | true =>
        go_enter Tryz.func49, Tryz.ntmps49
        go_wp2_with (go_at_call 50; refine HS.out.mono ?_; rintro e w1 ⟨rfl, q, rfl⟩)
        go_ret
        exact ⟨rfl, below_drewN HB0.out q⟩

def sameFn : Value := .func (.func 49) #[] #[]

set_option maxHeartbeats 2000000 in
set_option maxRecDepth 100000 in
theorem equals_ok (l m : List Stp) (hmax : l.length ≤ 9223372036854775807) (w : World) (A B : Option Addr) (c d : Nat) (hA : Steps w A l) (hB : Steps w B m) :
    Calls Tryz.prog 48 #[.slice A l.length c, .slice B m.length d, sameFn] w fun e w' => e = .returned (.bool (eqbs l m)) ∧ Below w.heap.size w w' := by
  have HA := Lib.hid hA
  have HB := Lib.hid hB
  clear hA hB
  unfold sameFn
  by_cases hlm : l.length = m.length
  · have dl : ((l.length : Int) != m.length) = false := by rw [hlm]; simp
    go_enter Tryz.func48, Tryz.ntmps48
    go_wp2
    go_loopw [17] (fun v wx => Below w.heap.size w wx ∧ ∃ i : Nat, i ≤ l.length ∧ v = .int .i64 i ∧ eqbs (l.take i) (m.take i) = true) (fun v _ => (l.length - intOf v).toNat)
    case atStart => exact ⟨Below.refl _ w, 0, Nat.zero_le _, rfl, by simp [eqbs]⟩
    case round =>
      obtain ⟨hBx, i, hi, rfl, hs⟩ := hrel
      by_cases hin : i < l.length
      · have hiz : (i : Int) < (l.length : Int) := by omega
        have hiz2 : (i : Int) < (m.length : Int) := by omega
        have hin2 : i < m.length := by omega
        have d1 : decide ((i : Int) < l.length) = true := decide_eq_true hiz
        obtain ⟨b, off, y, rfl, hlt, ⟨x0, x1, x2, x3⟩, hy⟩ := (HA.out.keep hBx) i hin
        obtain ⟨b2, off2, z, rfl, hlt2, ⟨z0, z1, z2, z3⟩, hz⟩ := (HB.out.keep hBx) i hin2
        have HT := Lib.hid (eqbs_take l m i hin hin2)
        have HS := Lib.hid hs
        have HN := Lib.hid (eqbs_not l m i hin hin2)
        have hbb : Below wr.heap.size wr ((wr.alloc (.cells #[.int .i8 y.k, .int .i64 y.a, .int .i64 y.b, .slice y.A y.n y.c] 46)).alloc (.cells #[.int .i8 z.k, .int .i64 z.a, .int .i64 z.b, .slice z.A z.n z.c] 46)) := ((Below.refl _ wr).alloc (Nat.le_refl _) _).alloc (by simp) _
        have HY := Lib.hid (same1_ok (l[i]) (m[i]) _ y z (hy.keep hbb) (hz.keep hbb))
        unfold C4.val at HY
        clear hs hy hz HA HB
        obtain ⟨r, hr⟩ : ∃ r, (l[i]).eqb (m[i]) = r := ⟨_, rfl⟩
        rw [hr] at HT HN HY
        clear hr hlm
        have HBB := Lib.hid hbb
        clear hbb
        cases r with
        | true =>
          go_wp2_with (go_at_call 49; refine HY.out.mono ?_; rintro e w1 ⟨rfl, hb1⟩)
          go_roundw
          case rel => exact ⟨(hBx.trans (HBB.out.mono hBx.size)).trans (hb1.mono (Nat.le_trans hBx.size HBB.out.size)), i + 1, by omega, by go_num, by rw [HT.out, HS.out]; rfl⟩
          case measure => simp only [intOf]; omega
        | false =>
          have HN2 := Lib.hid (HN.out rfl)
          go_wp2_with (go_at_call 49; refine HY.out.mono ?_; rintro e w1 ⟨rfl, hb1⟩)
          go_ret
          exact ⟨by rw [HN2.out]; rfl, (hBx.trans (HBB.out.mono hBx.size)).trans (hb1.mono (Nat.le_trans hBx.size HBB.out.size))⟩
      · have d1 : decide ((i : Int) < l.length) = false := decide_eq_false (by omega)
        have d2 : decide ((i : Int) < m.length) = false := decide_eq_false (by omega)
        have d3 : decide (i < m.length) = false := decide_eq_false (by omega)
        have e1 : l.take i = l := List.take_of_length_le (by omega)
        have e2 : m.take i = m := List.take_of_length_le (by omega)
        rw [e1, e2] at hs
        have HS := Lib.hid hs
        clear hs e1 e2
        go_wp2
        go_ret
        exact ⟨by rw [HS.out]; rfl, hBx⟩
  · have dl : ((l.length : Int) != m.length) = true := bne_iff_ne.2 (by omega)
    rw [eqbs_len l m hlm]
    go_enter Tryz.func48, Tryz.ntmps48
    go_wp2
    go_ret
    exact ⟨rfl, Below.refl _ _⟩

theorem same28_ok (l m : List Stp) (hmax : l.length ≤ 9223372036854775807) (w : World) (A B : Option Addr) (c d : Nat) (hA : Steps w A l) (hB : Steps w B m) :
    Calls Tryz.prog 25 #[.slice A l.length c, .slice B m.length d] w fun e w' => e = .returned (.bool (eqbs l m)) ∧ Below w.heap.size w w' := by
  have HE := Lib.hid (equals_ok l m hmax w A B c d hA hB)
  unfold sameFn at HE
  clear hA hB
  go_enter Tryz.func25, Tryz.ntmps25
  go_wp2_with (go_at_call 48; refine HE.out.mono ?_; rintro e w1 ⟨rfl, hb1⟩)
  go_ret
  exact ⟨rfl, hb1⟩
end Go.Proofs.YtiklliiamljogaaGreatDoor

/- The reference's Same of steps. -/
namespace Go.Proofs.YtiklliiamljogaaGreatDoor
open Go.RowKit

theorem below_al {a w : World} (h : Below a.heap.size a w) (o : Obj) : Below a.heap.size a (w.alloc o) := h.alloc h.size o
theorem below_st {a w : World} (h : Below a.heap.size a w) {p : Addr} (hp : a.heap.size ≤ p.block) (v : Value) : Below a.heap.size a (w.setCell p v) := h.setCell hp v
theorem below_dr {a w : World} (h : Below a.heap.size a w) : Below a.heap.size a w.drew := h.drew

set_option maxHeartbeats 4000000 in
set_option maxRecDepth 100000 in
theorem rsame28_ok (l m : List Stp) (hmax : l.length ≤ 9223372036854775807) (w : World) (A B : Option Addr) (c d : Nat) (hA : Steps w A l) (hB : Steps w B m) :
    Calls Tryz.prog 20 #[.slice A l.length c, .slice B m.length d] w fun e w' => e = .returned (.bool (eqbs l m)) ∧ Below w.heap.size w w' := by
  have HA := Lib.hid hA
  have HB := Lib.hid hB
  clear hA hB
  by_cases hlm : l.length = m.length
  · have dl : ((l.length : Int) != m.length) = false := by rw [hlm]; simp
    go_enter Tryz.func20, Tryz.ntmps20
    go_wp2
    go_loopw [5] (fun v wx => Below w.heap.size w wx ∧ ∃ i : Nat, i ≤ l.length ∧ v = .int .i64 i ∧ eqbs (l.take i) (m.take i) = true) (fun v _ => (l.length - intOf v).toNat)
    case atStart => exact ⟨Below.refl _ w, 0, Nat.zero_le _, rfl, by simp [eqbs]⟩
    case round =>
      obtain ⟨hBx, i, hi, rfl, hs⟩ := hrel
      by_cases hin : i < l.length
      · have hiz : (i : Int) < (l.length : Int) := by omega
        have hiz2 : (i : Int) < (m.length : Int) := by omega
        have hin2 : i < m.length := by omega
        have d1 : decide ((i : Int) < l.length) = true := decide_eq_true hiz
        obtain ⟨b, off, y, rfl, hlt, ⟨x0, x1, x2, x3⟩, hy⟩ := (HA.out.keep hBx) i hin
        obtain ⟨b2, off2, z, rfl, hlt2, ⟨z0, z1, z2, z3⟩, hz⟩ := (HB.out.keep hBx) i hin2
        have HT := Lib.hid (eqbs_take l m i hin hin2)
        have HS := Lib.hid hs
        have HN := Lib.hid (eqbs_not l m i hin hin2)
        have HY := Lib.hid (fun w2 (h2 : Below wr.heap.size wr w2) => (sameRef_ok y.c z.c (hy.row.below h2) (hz.row.below h2)).mono (R' := fun e w' => e = .returned (.bool ((l[i]).l == (m[i]).l)) ∧ Below wr.heap.size wr w') fun e w' h => ⟨h.1, by obtain ⟨q, rfl⟩ := h.2; exact below_drewN h2 q⟩)
        have en := hy.n
        have zn := hz.n
        have ec := hy.c
        have zc := hz.c
        rw [← en, ← zn] at HY
        have ek : (y.k == z.k) = ((l[i]).k == (m[i]).k) := by rw [hy.k, hz.k]
        have ea : (y.a == z.a) = ((l[i]).a == (m[i]).a) := by rw [hy.a, hz.a]
        have eb : (y.b == z.b) = ((l[i]).b == (m[i]).b) := by rw [hy.b, hz.b]
        have nk : (y.k != z.k) = !(y.k == z.k) := rfl
        have na : (y.a != z.a) = !(y.a == z.a) := rfl
        have nb : (y.b != z.b) = !(y.b == z.b) := rfl
        unfold Stp.eqb at HT HN
        rw [← ek, ← ea, ← eb] at HT HN
        clear hs hy hz HA HB hlm en zn ek ea eb
        cases hkk : y.k == z.k with
        | false =>
          rw [hkk] at nk HN
          have HN2 := Lib.hid (HN.out rfl)
          clear HT HN
          go_wp2
          go_region
          all_goals
            go_wp2
            go_ret
            exact ⟨by rw [HN2.out]; rfl, hBx.trans (Below.mono (by (repeat (first | with_reducible exact Below.refl _ _ | with_reducible refine below_dr ?_ | with_reducible refine below_al ?_ _ | (with_reducible refine below_st ?_ ?_ _; rotate_left; first | exact Nat.le_refl _ | exact Nat.le_succ _)))) hBx.size)⟩
        | true =>
          rw [hkk] at nk HN HT
          cases haa : y.a == z.a with
          | false =>
            rw [haa] at na HN
            have HN2 := Lib.hid (HN.out rfl)
            clear HT HN
            go_wp2
            go_region
            all_goals
              go_wp2
              go_ret
              exact ⟨by rw [HN2.out]; rfl, hBx.trans (Below.mono (by (repeat (first | with_reducible exact Below.refl _ _ | with_reducible refine below_dr ?_ | with_reducible refine below_al ?_ _ | (with_reducible refine below_st ?_ ?_ _; rotate_left; first | exact Nat.le_refl _ | exact Nat.le_succ _)))) hBx.size)⟩
          | true =>
            rw [haa] at na HN HT
            cases hbb : y.b == z.b with
            | false =>
              rw [hbb] at nb HN
              have HN2 := Lib.hid (HN.out rfl)
              clear HT HN
              go_wp2
              go_region
              all_goals
                go_wp2
                go_ret
                exact ⟨by rw [HN2.out]; rfl, hBx.trans (Below.mono (by (repeat (first | with_reducible exact Below.refl _ _ | with_reducible refine below_dr ?_ | with_reducible refine below_al ?_ _ | (with_reducible refine below_st ?_ ?_ _; rotate_left; first | exact Nat.le_refl _ | exact Nat.le_succ _)))) hBx.size)⟩
            | true =>
              rw [hbb] at nb HN HT
              cases hll : (l[i]).l == (m[i]).l with
              | false =>
                rw [hll] at HN HY
                have HN2 := Lib.hid (HN.out rfl)
                clear HT HN
                go_wp2
                go_region
                all_goals
                  go_wp2_with (go_at_call 40; refine (HY.out _ (by (repeat (first | with_reducible exact Below.refl _ _ | with_reducible refine below_dr ?_ | with_reducible refine below_al ?_ _ | (with_reducible refine below_st ?_ ?_ _; rotate_left; first | exact Nat.le_refl _ | exact Nat.le_succ _))))).mono ?_; rintro e w1 ⟨rfl, hb1⟩)
                  go_ret
                  exact ⟨by rw [HN2.out]; rfl, hBx.trans (hb1.mono hBx.size)⟩
              | true =>
                rw [hll] at HT HY
                have HT2 := Lib.hid (HT.out.trans (show (eqbs (l.take i) (m.take i) && (true && (true && (true && true)))) = true by rw [HS.out]; rfl))
                clear HT HN
                go_wp2
                go_region
                all_goals
                  go_wp2_with (go_at_call 40; refine (HY.out _ (by (repeat (first | with_reducible exact Below.refl _ _ | with_reducible refine below_dr ?_ | with_reducible refine below_al ?_ _ | (with_reducible refine below_st ?_ ?_ _; rotate_left; first | exact Nat.le_refl _ | exact Nat.le_succ _))))).mono ?_; rintro e w1 ⟨rfl, hb1⟩)
                  go_roundw
                  case rel => exact ⟨hBx.trans (hb1.mono hBx.size), i + 1, by omega, by go_num, HT2.out⟩
                  case measure => simp only [intOf]; omega
      · have d1 : decide ((i : Int) < l.length) = false := decide_eq_false (by omega)
        have d2 : decide ((i : Int) < m.length) = false := decide_eq_false (by omega)
        have d3 : decide (i < m.length) = false := decide_eq_false (by omega)
        have e1 : l.take i = l := List.take_of_length_le (by omega)
        have e2 : m.take i = m := List.take_of_length_le (by omega)
        rw [e1, e2] at hs
        have HS := Lib.hid hs
        clear hs e1 e2
        go_wp2
        go_ret
        exact ⟨by rw [HS.out]; rfl, hBx⟩
  · have dl : ((l.length : Int) != m.length) = true := bne_iff_ne.2 (by omega)
    rw [eqbs_len l m hlm]
    go_enter Tryz.func20, Tryz.ntmps20
    go_wp2
    go_ret
    exact ⟨rfl, Below.refl _ _⟩
end Go.Proofs.YtiklliiamljogaaGreatDoor

/- ProofReads: the walk. -/
namespace Go.Proofs.YtiklliiamljogaaGreatDoor
open Go.RowKit Go.Lib

def outE (o : Option (List Stp)) : Int := if o.isSome then 0 else 30
theorem ParseOut.norm {o : Option (List Stp)} {w w' : World} {e : Ending} (h : ParseOut o w w' e) : (∃ A c, e = .returned (.tuple #[.slice A (o.getD []).length c, .int .i64 (outE o)]) ∧ Steps w' A (o.getD [])) ∧ Below w.heap.size w w' := by
  obtain ⟨h1, h2⟩ := h
  refine ⟨?_, h2⟩
  cases o with
  | none => exact ⟨none, 0, h1, fun i hi => absurd hi (Nat.not_lt_zero _)⟩
  | some L => exact h1
theorem parse_len {x : Sx} : ((parseP x).getD []).length ≤ x.mass := by
  cases h : parseP x with
  | none => exact Nat.zero_le _
  | some L =>
    obtain ⟨k, t, l⟩ := x
    unfold parseP at h
    dsimp only at h
    split at h
    · split at h
      · cases h
      · rename_i y r hkt
        split at h
        · have h1 := allP_len h
          have h2 := mass_len r
          rw [Sx.mass, Sx.masses]
          show L.length ≤ _
          omega
        · cases h
    · cases h
theorem read_len {L : List UInt8} : ((readS L).getD []).length ≤ 2 * L.length := by
  unfold readS
  split
  · split
    · rename_i x hx
      have h1 := allM_mass L x (by rw [hx]; simp)
      have h2 := parse_len (x := x)
      omega
    · exact Nat.zero_le _
  · exact Nat.zero_le _
theorem eqbs_refl (l : List Stp) : eqbs l l = true := (eqbs_eq l l).2 rfl

set_option maxHeartbeats 1000000 in
set_option maxRecDepth 100000 in
theorem proofReads_walk (x : Sx) (s : ByteArray) (hs : s.size ≤ 9223372036854775807) (w : World) (ht : Tab w) (y : C3) (hv : Lies (fun _ => True) w y.val x) :
    Calls Tryz.prog 4 #[.agg #[.int .i8 y.k, .string y.t, .slice y.A y.n y.c], .string s] w fun e w' => e = .returned (.bool true) ∧ Below w.heap.size w w' := by
  obtain ⟨W, eW⟩ : ∃ W, w.alloc (.cells #[.int .i8 y.k, .string y.t, .slice y.A y.n y.c] 28) = W := ⟨_, rfl⟩
  have hbW : Below w.heap.size w W := eW ▸ (Below.refl _ w).alloc (Nat.le_refl _) _
  have hBx : Blk W w.heap.size 28 #[.int .i8 y.k, .string y.t, .slice y.A y.n y.c] := eW ▸ Blk.new w _ _
  have HW := Lib.hid hbW
  have HV := Lib.hid (fun w1 (h1 : Below W.heap.size W w1) => (hv.keep hbW).keep h1)
  have HBX := Lib.hid (fun w1 (h1 : Below W.heap.size W w1) => hBx.below h1 hBx.lt)
  have HWK := Lib.hid (fun w1 (h1 : Below W.heap.size W w1) => wakes_ok w1 (ht.keep (below_then hbW (Nat.le_refl _) h1)))
  have HG := Lib.hid (greatx_ok x _ W (hv.keep hbW))
  unfold C3.val at HG HV
  obtain ⟨x0, x1, x2, _⟩ := blk3 hBx
  clear hv hbW hBx ht
  cases hg : x.greatX with
  | true =>
    rw [hg] at HG
    clear hg
    go_enter Tryz.func4, Tryz.ntmps4
    go_wp2_with (first
      | (go_at_call 15; (with_reducible refine HG.out.mono ?_); rintro e w1 ⟨rfl, hb1⟩; have HB1 := Lib.hid hb1; clear hb1)
      | (go_at_call 9; (with_reducible refine (HWK.out _ HB1.out).mono ?_); rintro e w2 ⟨rfl, hb2⟩))
    go_ret
    exact ⟨rfl, below_then HW.out (Nat.le_refl _) (below_then HB1.out (Nat.le_refl _) hb2)⟩
  | false =>
    rw [hg] at HG
    have hm := greatX_mass hg
    clear hg
    by_cases h9 : 9000 < s.size
    · have d1 : decide ((s.size : Int) > 9000) = true := decide_eq_true (by omega)
      have d2 : decide ((9000 : Int) < s.size) = true := d1
      clear h9
      go_enter Tryz.func4, Tryz.ntmps4
      go_wp2_with (first
        | (go_at_call 15; (with_reducible refine HG.out.mono ?_); rintro e w1 ⟨rfl, hb1⟩; have HB1 := Lib.hid hb1; clear hb1)
        | (go_at_call 9; (with_reducible refine (HWK.out _ HB1.out).mono ?_); rintro e w2 ⟨rfl, hb2⟩))
      go_ret
      exact ⟨rfl, below_then HW.out (Nat.le_refl _) (below_then HB1.out (Nat.le_refl _) hb2)⟩
    · have d1 : decide ((s.size : Int) > 9000) = false := decide_eq_false (by omega)
      have d2 : decide ((9000 : Int) < s.size) = false := d1
      have HPA := Lib.hid (fun w1 (h1 : Below W.heap.size W w1) => (parsex_ok x (by omega) _ w1 (HV.out w1 h1)).mono fun e w' h => h.norm)
      have HPB := Lib.hid (fun w1 (h1 : Below W.heap.size W w1) => (rparsex_ok x (by omega) _ w1 (HV.out w1 h1)).mono fun e w' h => h.norm)
      have HRA := Lib.hid (fun w1 => (readx_ok s (by omega) w1).mono fun e w' h => h.norm)
      have HRB := Lib.hid (fun w1 => (rreadx_ok s (by omega) w1).mono fun e w' h => h.norm)
      have hl1 := parse_len (x := x)
      have hl2 := read_len (L := byts s)
      rw [byts_len] at hl2
      obtain ⟨P, hP⟩ : ∃ P, (parseP x).getD [] = P := ⟨_, rfl⟩
      obtain ⟨R, hR⟩ : ∃ R, (readS (byts s)).getD [] = R := ⟨_, rfl⟩
      obtain ⟨p, hp⟩ : ∃ p, outE (parseP x) = p := ⟨_, rfl⟩
      obtain ⟨r, hr⟩ : ∃ r, outE (readS (byts s)) = r := ⟨_, rfl⟩
      rw [hP] at HPA HPB hl1
      rw [hp] at HPA HPB
      rw [hR] at HRA HRB hl2
      rw [hr] at HRA HRB
      have hPl : P.length ≤ 9223372036854775807 := by omega
      have hRl : R.length ≤ 9223372036854775807 := by omega
      have HSP := Lib.hid (fun (w1 : World) A B c d hA hB => rsame28_ok P P hPl w1 A B c d hA hB)
      have HSR := Lib.hid (fun (w1 : World) A B c d hA hB => rsame28_ok R R hRl w1 A B c d hA hB)
      rw [eqbs_refl] at HSP HSR
      clear hP hR hp hr hl1 hl2 h9 hm
      go_enter Tryz.func4, Tryz.ntmps4
      go_wp2_with (first
        | (go_at_call 15; (with_reducible refine HG.out.mono ?_); rintro e w1 ⟨rfl, hb1⟩; have HB1 := Lib.hid hb1; obtain ⟨y0, y1, y2, _⟩ := blk3 (HBX.out w1 hb1); clear hb1)
        | (go_at_call 16; (with_reducible refine (HPA.out _ HB1.out).mono ?_); rintro e w2 ⟨⟨A1, c1, rfl, hs1⟩, hb2⟩; have HB2 := Lib.hid (below_then HB1.out (Nat.le_refl _) hb2); have HS1 := Lib.hid hs1; obtain ⟨z0, z1, z2, _⟩ := blk3 (HBX.out w2 HB2.out); clear hb2 hs1)
        | (go_at_call 17; (with_reducible refine (HPB.out _ HB2.out).mono ?_); rintro e w3 ⟨⟨A2, c2, rfl, hs2⟩, hb3⟩; have HB3 := Lib.hid (below_then HB2.out (Nat.le_refl _) hb3); have HS12 := Lib.hid (HS1.out.keep hb3); have HS2 := Lib.hid hs2; clear hb3 hs2)
        | (go_at_call 18; (with_reducible refine (HRA.out _).mono ?_); rintro e w4 ⟨⟨A3, c3, rfl, hs3⟩, hb4⟩; have HB4 := Lib.hid (below_then HB3.out (Nat.le_refl _) hb4); have HS13 := Lib.hid (HS12.out.keep hb4); have HS23 := Lib.hid (HS2.out.keep hb4); have HS3 := Lib.hid hs3; clear hb4 hs3)
        | (go_at_call 19; (with_reducible refine (HRB.out _).mono ?_); rintro e w5 ⟨⟨A4, c4, rfl, hs4⟩, hb5⟩; have HB5 := Lib.hid (below_then HB4.out (Nat.le_refl _) hb5); have HS14 := Lib.hid (HS13.out.keep hb5); have HS24 := Lib.hid (HS23.out.keep hb5); have HS34 := Lib.hid (HS3.out.keep hb5); have HS4 := Lib.hid hs4; clear hb5 hs4)
        | (go_at_call 20; (with_reducible refine (HSP.out w5 A1 A2 c1 c2 HS14.out HS24.out).mono ?_); rintro e w6 ⟨rfl, hb6⟩; have HB6 := Lib.hid (below_then HB5.out (Nat.le_refl _) hb6); have HS36 := Lib.hid (HS34.out.keep hb6); have HS46 := Lib.hid (HS4.out.keep hb6); clear hb6)
        | (go_at_call 20; (with_reducible refine (HSR.out w6 A3 A4 c3 c4 HS36.out HS46.out).mono ?_); rintro e w7 ⟨rfl, hb7⟩; have HB7 := Lib.hid (below_then HB6.out (Nat.le_refl _) hb7); clear hb7)
        | (go_at_call 9; (with_reducible refine (HWK.out _ HB7.out).mono ?_); rintro e w8 ⟨rfl, hb8⟩))
      go_ret
      exact ⟨rfl, below_then HW.out (Nat.le_refl _) (below_then HB7.out (Nat.le_refl _) hb8)⟩
theorem proofReads_in (x : C3 × Sx) (s : ByteArray) (w : World) (ht : Tab w) (hv : Lies (fun _ => True) w x.1.val x.2) (hs : s.size ≤ maxLen) :
    Calls Tryz.prog 4 #[.agg #[.int .i8 x.1.k, .string x.1.t, .slice x.1.A x.1.n x.1.c], .string s] w fun e w' => e = .returned (.bool true) ∧ Below w.heap.size w w' := proofReads_walk x.2 s (by unfold maxLen at hs; omega) w ht x.1 hv
end Go.Proofs.YtiklliiamljogaaGreatDoor

/- sides, told, turn. -/
import Derived.Test.YtbgbhfmchpdkcaaEuS
namespace Go.Proofs.Ytbgbhfmchpdkcaa
open Go.RowKit

/-- What steps of closing do to the joins. -/
structure Ext (T : List Nd) (S : Int → Prop) (J J' : List Jn) (more more' : Bool) : Prop where
  snd : Snd T S J → Snd T S J'
  keep : ∀ u v, cls J u = cls J v → cls J' u = cls J' v
  same : more' = false → J' = J ∧ more = false
  grow : J.length ≤ J'.length
  strict : more = false → more' = true → J.length < J'.length
theorem Ext.refl (T : List Nd) (S : Int → Prop) (J : List Jn) (more : Bool) : Ext T S J J more more :=
  ⟨id, fun _ _ h => h, fun h => ⟨rfl, h⟩, Nat.le_refl _, fun h1 h2 => by rw [h1] at h2; cases h2⟩
theorem Ext.trans {T : List Nd} {S : Int → Prop} {J J1 J2 : List Jn} {m0 m1 m2 : Bool} (h : Ext T S J J1 m0 m1) (k : Ext T S J1 J2 m1 m2) : Ext T S J J2 m0 m2 := by
  refine ⟨k.snd ∘ h.snd, fun u v e => k.keep u v (h.keep u v e), fun e => ?_, Nat.le_trans h.grow k.grow, fun e1 e2 => ?_⟩
  · obtain ⟨rfl, e1⟩ := k.same e
    exact h.same e1
  · cases m1 with
    | true => exact Nat.lt_of_lt_of_le (h.strict e1 rfl) k.grow
    | false => exact Nat.lt_of_le_of_lt h.grow (k.strict rfl e2)
theorem Ext.join {T : List Nd} {S : Int → Prop} {J : List Jn} {more : Bool} {a b : Int} (hg : Snd T S J → Cg T S a b) : Ext T S J (joinM (T.length + 1) J a b 0) more (more || joinsM (T.length + 1) J a b) := by
  refine ⟨fun h => h.join (hg h), fun u v e => cls_join e, fun e => ?_, ?_, fun e1 e2 => ?_⟩
  · rw [Bool.or_eq_false_iff] at e
    refine ⟨?_, e.1⟩
    have := e.2
    unfold joinsM at this
    unfold joinM
    rw [if_neg (of_decide_eq_false this)]
  · obtain ⟨Y, hY⟩ := join_prefix (T.length + 1) J a b 0
    rw [hY, List.length_append]
    omega
  · rw [e1, Bool.false_or] at e2
    unfold joinsM at e2
    have := of_decide_eq_true e2
    rw [join_len this.2.2 this.1 this.2.1]
    omega
section
variable {w w' : World} {H : Nat} {X : Nat → Prop} {cb q bf : Nat} {A : Option Addr} {c : Nat} {T : List Nd} {J : List Jn} {m : Nat} {more : Bool}
theorem cone_ok (h : Cl w H X cb q bf A c T J m more) (hm : m ≤ 1000000) (a b : Int) :
    Calls Try.prog 53 #[.pointer (some ⟨bf, 0, none⟩), .int .i64 a, .int .i64 b] w fun e w' => e = .returned (.bool (oneM (T.length + 1) J a b)) ∧ Cl w' H X cb q bf A c T J (m + 1) more ∧ Kc H (fun b => X b ∨ b = cb) w w' := by
  refine (fo_one h.fo hm a b).mono ?_
  rintro e w' ⟨he, hfo, hk⟩
  refine ⟨he, ⟨h.blk.kept hk (fun hn => hn (.inr (.inr rfl))), h.tab.kept hk (fun hn => hn (.inl h.hq)) (fun x e hn => hn (.inl (h.hA x e))), hfo, h.hq, h.hA, h.hcb, fun b hb => Nat.lt_of_lt_of_le (h.hX b hb) hk.size, Nat.le_trans h.hH hk.size, h.hT⟩, hk⟩
theorem Kc.less {Y : Nat → Prop} (h : Kc H Y w w') (hs : ∀ b, X b → Y b) : Kc H X w w' := h.mono fun b _ hb hn => hb (hn.imp id (hs b))
theorem oneM_iff {n : Int} {x y : Int} (hx : 0 ≤ x ∧ x < n) (hy : 0 ≤ y ∧ y < n) : oneM n J x y = true ↔ cls J x = cls J y := by
  unfold oneM
  rw [decide_eq_true_iff]
  exact ⟨fun h => h.2.2, fun h => ⟨hx, hy, h⟩⟩

def SideIs (T : List Nd) (id : Int) (w : World) (e : Ending) (w' : World) : Prop := ∃ sa sb ok, e = .returned (.tuple #[.int .i64 sa, .int .i64 sb, .bool ok]) ∧ (ok = true ↔ Sided T id) ∧ (ok = true → ∃ n, T[id.toNat]? = some n ∧ sa = n.a0 ∧ sb = n.a1) ∧ Below w.heap.size w w'
set_option maxRecDepth 100000 in
set_option maxHeartbeats 1000000 in
theorem sides_ok (h : Cl w H X cb q bf A c T J m more) (id : Int) :
    Calls Try.prog 55 #[.pointer (some ⟨cb, 0, none⟩), .int .i64 id] w (SideIs T id w) := by
  have c0 := h.blk.cell 0
  simp only [List.getElem?_toArray, List.getElem?_cons_zero] at c0
  have hl := h.blk.lt
  have c1 := h.tab.blk.cell 0
  simp only [List.getElem?_toArray, List.getElem?_cons_zero] at c1
  have hq := h.tab.blk.lt
  have HH := Lib.hid h
  have KK := Lib.hid (kind_ok h.tab.tab h.tab.cap id)
  clear h
  obtain ⟨kv, hkv⟩ : ∃ kv, kindM T id = kv := ⟨_, rfl⟩
  have HK := Lib.hid hkv
  have HS : Hid (Sided T id ↔ kv = 4 ∨ kv = 5) := Lib.hid (by unfold Sided; rw [hkv])
  have hin : (kv = 4 ∨ kv = 5) → ∃ i : Nat, id = i ∧ i < T.length := fun hk => by
    refine sort_place (Classical.byContradiction fun hn => ?_)
    rw [kindM_no hn] at hkv
    omega
  clear hkv
  go_enter Try.func55, Try.ntmps55
  go_wp2_with fail
  refine KK.out.mono ?_
  rintro e w1 ⟨rfl, hb1⟩
  rw [HK.out]
  have HB1 := Lib.hid hb1
  have d0 := (hb1.cell (p := ⟨cb, 0, none⟩) hl).trans c0
  have d1 := (hb1.cell (p := ⟨q, 0, none⟩) hq).trans c1
  have hl1 := Nat.lt_of_lt_of_le hl hb1.size
  have hq1 := Nat.lt_of_lt_of_le hq hb1.size
  clear hb1 c0 c1
  by_cases hk : kv = 4 ∨ kv = 5
  · obtain ⟨i, rfl, hi⟩ := hin hk
    obtain ⟨b, off, hA, hbb, hcell⟩ := (HH.out.tab.tab.below HB1.out).at_.resolve_left (by omega)
    subst hA
    obtain ⟨_, _, y2, y3, _, _, _, _⟩ := (hcell i hi).all
    have HG := Lib.hid (show T[((i : Nat) : Int).toNat]? = some T[i] by rw [Int.toNat_natCast]; exact List.getElem?_eq_getElem hi)
    have t1 : (0 : Int) ≤ (i : Int) := by omega
    have t2 : (i : Int) < (T.length : Int) := by omega
    clear hcell hin
    generalize T[i] = n at *
    have HSD := Lib.hid (HS.out.2 hk)
    rcases hk with rfl | rfl
    · go_wp2
      go_quiet (fail)
      go_wp2
      go_ret3
      exact ⟨_, _, _, rfl, ⟨fun _ => HSD.out, fun _ => rfl⟩, fun _ => ⟨n, HG.out, rfl, rfl⟩, below_drewN HB1.out _⟩
    · go_wp2
      go_quiet (fail)
      go_wp2
      go_ret3
      exact ⟨_, _, _, rfl, ⟨fun _ => HSD.out, fun _ => rfl⟩, fun _ => ⟨n, HG.out, rfl, rfl⟩, below_drewN HB1.out _⟩
  · have b0 : (kv == 4) = false := by simp; omega
    have b1 : (kv == 5) = false := by simp; omega
    have HN := Lib.hid hk
    clear hk hin
    go_wp2
    go_ret3
    exact ⟨_, _, _, rfl, ⟨fun e => by simp at e, fun h => absurd (HS.out.1 h) HN.out⟩, fun e => by simp at e, HB1.out⟩

theorem is_ok23 (x : Int) (h0 : 0 ≤ x) (h1 : x < 9223372036854775808) (w : World) : Calls Try.prog 57 #[.int .i64 x] w fun e w' => e = .returned (.bool (x % 2 != 0)) ∧ w = w' := by
  have ha := i64_and_one x h0 h1
  obtain ⟨y, hy⟩ : ∃ y, x % 2 = y := ⟨_, rfl⟩
  rw [hy] at ha ⊢
  clear hy
  go_enter Try.func57, Try.ntmps57
  go_wp2
  go_ret
  exact ⟨rfl, rfl⟩
/-- The two of an equality are nodes. -/
theorem side_args {T : List Nd} (hT : TabOk T) {id : Int} {n : Nd} (hs : Sided T id) (hn : T[id.toNat]? = some n) : (0 ≤ n.a0 ∧ n.a0 < (T.length : Int) + 1) ∧ (0 ≤ n.a1 ∧ n.a1 < (T.length : Int) + 1) := by
  have hlt := (List.getElem?_eq_some_iff.1 hn).1
  have hst := hT.st _ _ hn
  have h6 : n.op = 6 := by
    unfold Sided kindM at hs
    split at hs
    · omega
    · rw [hn] at hs
      simp only at hs
      split at hs
      · assumption
      · unfold kindOp at hs
        repeat' split at hs
        all_goals omega
  have hl : n.len = 2 := by
    obtain ⟨lo, hi, e, h1, h2⟩ := hst.ar
    rw [h6] at e
    simp [arityM] at e
    omega
  have a0 := (hst.args 0 (by omega)).1 (by rw [hl]; decide)
  have a1 := (hst.args 1 (by omega)).1 (by rw [hl]; decide)
  simp [Nd.arg] at a0 a1
  omega
/-- A step of the closer's. -/
def CStep (H : Nat) (X : Nat → Prop) (cb q bf : Nat) (A : Option Addr) (c : Nat) (T : List Nd) (S : Int → Prop) (J : List Jn) (m : Nat) (more : Bool) (R : List Jn → Bool → Prop) (w : World) (e : Ending) (w' : World) : Prop :=
  e = .returned (.tuple #[]) ∧ ∃ J' m' more', Cl w' H X cb q bf A c T J' m' more' ∧ m' ≤ m + 10 ∧ Ext T S J J' more more' ∧ R J' more' ∧ Kc H X w w'
def ToldR (T : List Nd) (x : Int) (J' : List Jn) (_ : Bool) : Prop :=
  (x % 2 = 1 → cls J' (x / 2) = cls J' T.length) ∧ (x % 2 = 0 → cls J' (x / 2) = cls J' 0) ∧ (x % 2 = 0 → Sided T (x / 2) → ∀ n, T[(x / 2).toNat]? = some n → cls J' n.a0 = cls J' n.a1)

theorem ToldR.even {x : Int} {J' : List Jn} {b : Bool} (hy : x % 2 = 0) (h1 : cls J' (x / 2) = cls J' 0) (h2 : Sided T (x / 2) → ∀ n, T[(x / 2).toNat]? = some n → cls J' n.a0 = cls J' n.a1) : ToldR T x J' b := ⟨fun e => (by rw [hy] at e; cases e), fun _ => h1, fun _ => h2⟩
theorem ToldR.odd {x : Int} {J' : List Jn} {b : Bool} (hy : x % 2 = 1) (h1 : cls J' (x / 2) = cls J' T.length) : ToldR T x J' b := ⟨fun _ => h1, fun e => (by rw [hy] at e; cases e), fun e => (by rw [hy] at e; cases e)⟩
set_option maxRecDepth 100000 in
set_option maxHeartbeats 1000000 in
theorem told_ok {S : Int → Prop} (h : Cl w H X cb q bf A c T J m more) (hT : TabOk T) (hm : m ≤ 900000) {x : Int} (hx : LitMay T x) (hS : S x) :
    Calls Try.prog 49 #[.pointer (some ⟨cb, 0, none⟩), .int .i64 x] w (CStep H X cb q bf A c T S J m more (ToldR T x) w) := by
  obtain ⟨n, hn, hs, hop, hxl, hx0⟩ := hx.node
  have hlen := h.hT
  have hx9 : 0 ≤ x := hx.1
  have hl2 := hT.len
  have c2 := h.blk.cell 2
  simp only [List.getElem?_toArray, List.getElem?_cons_zero, List.getElem?_cons_succ] at c2
  have hl := h.blk.lt
  have HH := Lib.hid h
  have HS := Lib.hid hS
  have KI := Lib.hid (fun W => is_ok23 x hx9 (by omega) W)
  obtain ⟨y, hy⟩ : ∃ y, x % 2 = y := ⟨_, rfl⟩
  have HY := Lib.hid hy
  have KN := Lib.hid (fun W => node_ok x W)
  have hr1 : 0 ≤ x / 2 ∧ x / 2 < (T.length : Int) + 1 := by omega
  have hr0 : (0 : Int) ≤ 0 ∧ (0 : Int) < (T.length : Int) + 1 := by omega
  have hrN : 0 ≤ (T.length : Int) ∧ (T.length : Int) < (T.length : Int) + 1 := by omega
  have HR1 := Lib.hid hr1
  have HR0 := Lib.hid hr0
  have HRN := Lib.hid hrN
  rw [hy] at KI
  have hy2 : y = 0 ∨ y = 1 := by omega
  have HN := Lib.hid hn
  have HT := Lib.hid hT
  obtain ⟨id, hid⟩ : ∃ id, x / 2 = id := ⟨_, rfl⟩
  have HID := Lib.hid hid
  rw [hid] at KN HR1
  clear h hx hS hn hs hop hxl hx0 hy hT hr1 hr0 hrN hid hl2
  rcases hy2 with rfl | rfl
  · go_enter Try.func49, Try.ntmps49
    go_wp2_with fail
    refine (KN.out _).mono ?_
    rintro e w1 ⟨rfl, rfl⟩
    go_wp2_with fail
    refine (KI.out _).mono ?_
    rintro e w1 ⟨rfl, rfl⟩
    go_wp2_with fail
    refine (cjoin_ok HH.out (by omega) id 0).mono ?_
    rintro e w1 ⟨rfl, h1, k1⟩
    have H1 := Lib.hid h1
    have K1 := Lib.hid k1
    have E1 := Lib.hid (Ext.join (T := T) (S := S) (J := J) (more := more) (a := id) (b := 0) fun _ => HID.out ▸ .pos HS.out HY.out)
    have J1 := Lib.hid (cls_joined (J := J) (r := 0) HR1.out HR0.out)
    generalize joinM (T.length + 1) J id 0 0 = Ja at *
    generalize (more || joinsM (T.length + 1) J id 0) = ma at *
    clear h1 k1
    go_wp2_with fail
    refine (sides_ok H1.out id).mono ?_
    rintro e w2 ⟨sa, sb, ok, rfl, hok, hsd, hb2⟩
    have H2 := Lib.hid (H1.out.below hb2)
    have K2 := Lib.hid (K1.out.trans (Kc.of_below hb2))
    have HOK := Lib.hid hok
    have HSD := Lib.hid hsd
    clear hb2 hok hsd
    cases ok with
    | false =>
      have HTR : Hid (ToldR T x Ja ma) := Lib.hid (ToldR.even HY.out (HID.out ▸ J1.out) fun hs => by have := HOK.out.2 (HID.out ▸ hs); cases this)
      go_wp2
      refine bodyPost_end (results_none rfl _ _ _) rfl ?_
      exact ⟨rfl, Ja, m + 3, ma, H2.out, by omega, E1.out, HTR.out, K2.out⟩
    | true =>
      obtain ⟨n', hn', hsa, hsb⟩ := HSD.out rfl
      have hnn : n' = n := by
        have := HN.out
        rw [HID.out, hn'] at this
        injection this
      subst hnn
      subst hsa hsb
      have HNN := Lib.hid hn'
      clear hn'
      go_wp2_with fail
      refine (cjoin_ok H2.out (by omega) n'.a0 n'.a1).mono ?_
      rintro e w3 ⟨rfl, h3, k3⟩
      have H3 := Lib.hid h3
      have K3 := Lib.hid (K2.out.trans k3)
      have E3 := Lib.hid (E1.out.trans (Ext.join (T := T) (S := S) (J := Ja) (more := ma) (a := n'.a0) (b := n'.a1) fun _ => .side HS.out HY.out (by rw [HID.out]; have := HOK.out; simpa using this) HN.out))
      clear h3 k3
      have hst := HT.out.st (x / 2).toNat n' HN.out
      have HTR : Hid (ToldR T x (joinM (T.length + 1) Ja n'.a0 n'.a1 0) (ma || joinsM (T.length + 1) Ja n'.a0 n'.a1)) := Lib.hid (ToldR.even HY.out (HID.out ▸ cls_join J1.out) fun hs m hm => by
        have e := HN.out
        rw [e] at hm
        injection hm with hm
        subst hm
        have hr := side_args HT.out hs e
        exact cls_joined hr.1 hr.2)
      go_wp2
      refine bodyPost_end (results_none rfl _ _ _) rfl ?_
      exact ⟨rfl, _, _, _, H3.out, by omega, E3.out, HTR.out, K3.out⟩
  · go_enter Try.func49, Try.ntmps49
    go_wp2_with fail
    refine (KN.out _).mono ?_
    rintro e w1 ⟨rfl, rfl⟩
    go_wp2_with fail
    refine (KI.out _).mono ?_
    rintro e w1 ⟨rfl, rfl⟩
    go_wp2_with fail
    refine (cjoin_ok HH.out (by omega) id T.length).mono ?_
    rintro e w1 ⟨rfl, h1, k1⟩
    have H1 := Lib.hid h1
    have K1 := Lib.hid k1
    have E1 := Lib.hid (Ext.join (T := T) (S := S) (J := J) (more := more) (a := id) (b := T.length) fun _ => HID.out ▸ .neg HS.out HY.out)
    have J1 := Lib.hid (cls_joined (J := J) (r := 0) HR1.out HRN.out)
    have HTR : Hid (ToldR T x (joinM (T.length + 1) J id T.length 0) (more || joinsM (T.length + 1) J id T.length)) := Lib.hid (ToldR.odd HY.out (HID.out ▸ J1.out))
    clear h1 k1
    go_wp2
    refine bodyPost_ret (results_none rfl _ _ _) rfl ?_
    exact ⟨rfl, _, _, _, H1.out, by omega, E1.out, HTR.out, K1.out⟩
end
end Go.Proofs.Ytbgbhfmchpdkcaa

/- The reference's row of classes; join. -/
import Derived.Test.YtbgbhfmchpdkcaaEuN
import Derived.Test.YtbgbhfmchpdkcaaEuQ
import Derived.BigQuiet
import Derived.Test.YtbgbhfmchpdkcaaEuT
import Derived.Deep.CutRange
namespace Go.Proofs.Ytbgbhfmchpdkcaa
open Go.RowKit

/-- The reference's row: n classes in a block of the call's own. -/
structure Crow (w : World) (B g n cp : Nat) (cs : List Int) : Prop where
  len : cs.length = n
  own : w.ownsRow B 3 1 (.slice (some ⟨g, 0, none⟩) n cp) n (cs.map (Value.int .i64))
section
variable {w w' : World} {B g n cp : Nat} {cs : List Int} {S : Nat → Prop}
theorem Crow.lt (h : Crow w B g n cp cs) : B ≤ g ∧ g < w.heap.size := h.own.lt g rfl
theorem Crow.cell (h : Crow w B g n cp cs) {i : Nat} (hi : i < n) : w.cell? ⟨g, i, none⟩ = some (.int .i64 (atC cs i)) := by
  have hl := h.len
  rw [h.own.cellAt i (by omega), List.getElem?_map, List.getElem?_eq_getElem (by omega), atC_nat (by omega)]
  rfl
theorem Crow.kept (h : Crow w B g n cp cs) (hk : Kept S w w') (hg : ¬ S g) : Crow w' B g n cp cs := ⟨h.len, own_kept h.own hk fun g' e hs => by
  injection e with e
  have e' : g = g' := e
  exact hg (by rw [e']; exact hs)⟩
theorem Crow.below (h : Crow w B g n cp cs) (hb : Below w.heap.size w w') : Crow w' B g n cp cs := h.kept (Kept.of_below (S := fun _ => False) hb) fun hf => hf
theorem Crow.set (h : Crow w B g n cp cs) (i : Nat) (u : Int) : Crow (w.setCell ⟨g, i, none⟩ (.int .i64 u)) B g n cp (cs.set i u) := by
  refine ⟨by rw [List.length_set]; exact h.len, ?_⟩
  rw [List.map_set]
  exact (h.own.stored i (.int .i64 u)).1
theorem Crow.row (h : Crow w B g n cp cs) (hn : n ≤ 100000) : Row w (some ⟨g, 0, none⟩) cs := by
  have hl := h.len
  refine ⟨by omega, .inr ⟨g, 0, rfl, h.lt.2, fun i hi => ?_⟩⟩
  rw [Nat.zero_add, h.cell (by omega), atC_nat hi]
end

/-- A row of classes, joined up to a place. -/
def mixC (J c : List Int) (i : Nat) : List Int := J.take i ++ c.drop i
theorem mix_zero (J c : List Int) : mixC J c 0 = c := by simp [mixC]
theorem mix_all {J c : List Int} (h : J.length = c.length) : mixC J c c.length = J := by
  unfold mixC
  rw [← h, List.take_length, h, List.drop_length, List.append_nil]
theorem mix_len {J c : List Int} (h : J.length = c.length) {i : Nat} (hi : i ≤ c.length) : (mixC J c i).length = c.length := by
  unfold mixC
  rw [List.length_append, List.length_take, List.length_drop]
  omega
theorem mix_at {J c : List Int} (h : J.length = c.length) {i : Nat} (hi : i < c.length) : atC (mixC J c i) i = atC c i := by
  rw [atC_nat (by rw [mix_len h (by omega)]; exact hi), atC_nat hi]
  unfold mixC
  rw [List.getElem_append_right (by rw [List.length_take]; omega)]
  simp only [List.length_take, List.getElem_drop, h, Nat.min_eq_left (Nat.le_of_lt hi), Nat.sub_self, Nat.add_zero]
theorem mix_set {J c : List Int} (h : J.length = c.length) {i : Nat} (hi : i < c.length) : (mixC J c i).set i (atC J i) = mixC J c (i + 1) := by
  have hj : i < J.length := by omega
  unfold mixC
  rw [List.set_append_right _ _ (by rw [List.length_take]; omega), List.length_take, Nat.min_eq_left (by omega), Nat.sub_self, List.drop_eq_getElem_cons hi, List.set_cons_zero, atC_nat hj, List.take_add_one, List.getElem?_eq_getElem hj, List.append_assoc]
  rfl
theorem mix_same {J c : List Int} (h : J.length = c.length) {i : Nat} (hi : i < c.length) (e : atC J i = atC c i) : mixC J c i = mixC J c (i + 1) := by
  have hj : i < J.length := by omega
  rw [atC_nat hj, atC_nat hi] at e
  unfold mixC
  rw [List.take_add_one, List.getElem?_eq_getElem hj, List.drop_eq_getElem_cons hi, e]
  simp

set_option maxRecDepth 100000 in
set_option maxHeartbeats 2000000 in
theorem rjoin_ok {w : World} {B g n cp : Nat} {cs : List Int} (h : Crow w B g n cp cs) (hn : n ≤ 100000) {a b : Int} (ha : 0 ≤ a ∧ a < n) (hb : 0 ≤ b ∧ b < n) :
    Calls Try.prog 27 #[.slice (some ⟨g, 0, none⟩) n cp, .int .i64 a, .int .i64 b] w fun e w' => ∃ r, e = .returned (.bool r) ∧ (r = true ↔ ¬ atC cs a = atC cs b) ∧ Crow w' B g n cp (joinC cs a b) ∧ Kept (fun k => k = g) w w' := by
  obtain ⟨i, rfl⟩ : ∃ i : Nat, a = i := ⟨a.toNat, by omega⟩
  obtain ⟨j, rfl⟩ : ∃ j : Nat, b = j := ⟨b.toNat, by omega⟩
  have hl := h.len
  have y0 := h.cell (i := i) (by omega)
  have y1 := h.cell (i := j) (by omega)
  have t1 : (0 : Int) ≤ (i : Int) := by omega
  have t2 : (i : Int) < (n : Int) := by omega
  have t3 : (0 : Int) ≤ (j : Int) := by omega
  have t4 : (j : Int) < (n : Int) := by omega
  have H := Lib.hid h
  have HJL := Lib.hid (joinC_len cs i j)
  have HJA := Lib.hid (fun (k : Nat) (hk : k < n) => atC_join (c := cs) (a := i) (b := j) (u := k) (by omega) (by omega))
  have HSame := Lib.hid (fun e => joinC_same (c := cs) (a := i) (b := j) e)
  generalize joinC cs i j = J at *
  clear h ha hb
  generalize hx : atC cs (i : Int) = x at *
  generalize hy : atC cs (j : Int) = y at *
  have HXX := Lib.hid hx
  have HYY := Lib.hid hy
  clear hx hy
  by_cases e : x = y
  · subst e
    have d0 : (x == x) = true := by simp
    have HS := Lib.hid (HSame.out rfl)
    go_enter Try.func27, Try.ntmps27
    go_wp2
    go_quiet (fail)
    go_wp2
    go_ret
    exact ⟨false, rfl, by simp, by rw [HS.out]; exact H.out.kept ((Kept.refl (fun _ => False) w).drewN _) (fun h => h), (Kept.refl _ w).drewN _⟩
  · have d0 : (x == y) = false := by simp [e]
    have HN := Lib.hid e
    clear e
    have HL := Lib.hid (show J.length = cs.length from HJL.out)
    have HCL := Lib.hid hl
    clear hl
    go_enter Try.func27, Try.ntmps27
    go_wp2
    go_quiet (fail)
    go_wp2
    go_loopg [9] n (fun gk v wr => ∃ q : Nat, q + gk = n ∧ v = .int .i64 q ∧ Crow wr B g n cp (mixC J cs q) ∧ Kept (fun k => k = g) w wr)
    case atStart => exact ⟨0, by omega, rfl, by rw [mix_zero]; exact H.out.kept ((Kept.refl (fun _ => False) w).drewN _) (fun h => h), (Kept.refl _ w).drewN _⟩
    case round =>
      obtain ⟨q, hq, rfl, hc, hk⟩ := hrel
      have HC := Lib.hid hc
      have HK := Lib.hid hk
      clear hc hk y0 y1
      cases gk with
      | zero =>
        obtain rfl : q = n := by omega
        have d1 : decide ((q : Int) < q) = false := by simp
        go_wp2
        go_ret
        refine ⟨true, rfl, ⟨fun _ => HN.out, fun _ => rfl⟩, ?_, HK.out⟩
        have := HC.out
        rw [← HCL.out, mix_all HL.out] at this
        rw [HCL.out] at this
        exact this
      | succ gk =>
        have hlt : q < n := by omega
        have hlt2 : q < cs.length := by rw [HCL.out]; exact hlt
        have d1 : decide ((q : Int) < n) = true := by simp; omega
        have t5 : (0 : Int) ≤ (q : Int) := by omega
        have t6 : (q : Int) < (n : Int) := by omega
        have y2 := HC.out.cell hlt
        rw [mix_at HL.out hlt2] at y2
        have HA := Lib.hid (HJA.out q hlt)
        have HMS := Lib.hid (mix_set HL.out hlt2)
        have HME := Lib.hid (mix_same HL.out hlt2)
        have hfz := own_frozen HC.out.own q
        generalize hz : atC cs (q : Int) = z at *
        clear hz hlt2
        by_cases e1 : z = x
        · have d2 : (z == x) = true := by simp [e1]
          have HV := Lib.hid (show atC J q = min x y by rw [HA.out, if_pos (.inl e1)])
          have HC2 := Lib.hid (HC.out.set q (min x y))
          rw [← HV.out, HMS.out, HV.out] at HC2
          have HK2 := Lib.hid (HK.out.setCell (p := ⟨g, q, none⟩) (.inl rfl) (.int .i64 (min x y)))
          clear e1
          go_wp2
          go_roundg gk
          case measure => omega
          case rel => exact ⟨q + 1, by omega, by go_num, HC2.out, HK2.out⟩
        · have d2 : (z == x) = false := by simp [e1]
          by_cases e2 : z = y
          · have d3 : (z == y) = true := by simp [e2]
            have HV := Lib.hid (show atC J q = min x y by rw [HA.out, if_pos (.inr e2)])
            have HC2 := Lib.hid (HC.out.set q (min x y))
            rw [← HV.out, HMS.out, HV.out] at HC2
            have HK2 := Lib.hid (HK.out.setCell (p := ⟨g, q, none⟩) (.inl rfl) (.int .i64 (min x y)))
            clear e1 e2
            go_wp2
            go_roundg gk
            case measure => omega
            case rel => exact ⟨q + 1, by omega, by go_num, HC2.out, HK2.out⟩
          · have d3 : (z == y) = false := by simp [e2]
            have HC2 := Lib.hid HC.out
            rw [HME.out (by rw [HA.out, if_neg (fun h => h.elim e1 e2)])] at HC2
            clear e1 e2
            go_wp2
            go_roundg gk
            case measure => omega
            case rel => exact ⟨q + 1, by omega, by go_num, HC2.out, HK.out⟩
end Go.Proofs.Ytbgbhfmchpdkcaa

/- The reference's nots. -/
namespace Go.Proofs.Ytbgbhfmchpdkcaa
open Go.RowKit

/-- A row on its way to be closed: from cs, whether something was joined. -/
structure NSt (T : List Nd) (S : Int → Prop) (cs ds : List Int) (sm : Bool) : Prop where
  ok : RefOk T S ds
  has : Has T S (atC ds)
  mass : massC ds ≤ massC cs
  less : sm = true → massC ds < massC cs
  same : sm = false → ds = cs
section
variable {T : List Nd} {S : Int → Prop} {cs ds : List Int} {sm : Bool}
theorem NSt.start (h : RefOk T S cs) (k : Has T S (atC cs)) : NSt T S cs cs false := ⟨h, k, Nat.le_refl _, fun e => (by cases e), fun _ => rfl⟩
theorem LitMay.in_ {x : Int} (h : LitMay T x) : 0 ≤ x / 2 ∧ x / 2 < T.length := by
  obtain ⟨n, _, _, _, h1, h2⟩ := h.node
  omega
theorem Has.joinC (hT : TabOk T) (hL : ∀ x, S x → LitMay T x) (ho : RefOk T S ds) (h : Has T S (atC ds)) (a b : Int) : Has T S (atC (joinC ds a b)) := by
  have hl := ho.len
  have h2 := hT.len
  refine ⟨fun x hx hp => joinC_keeps ?_ ?_ (h.neg x hx hp), fun x hx hp => joinC_keeps ?_ ?_ (h.pos x hx hp), fun x n hx hp hs hn => joinC_keeps ?_ ?_ (h.side x n hx hp hs hn)⟩
  · have := (hL x hx).in_
    omega
  · omega
  · have := (hL x hx).in_
    omega
  · omega
  · have := (side_args hT hs hn).1
    omega
  · have := (side_args hT hs hn).2
    omega
theorem NSt.join (hT : TabOk T) (hL : ∀ x, S x → LitMay T x) (h : NSt T S cs ds sm) {a b : Int} (ha : 0 ≤ a ∧ a < (T.length : Int) + 1) (hb : 0 ≤ b ∧ b < (T.length : Int) + 1) (g : Cg T S a b) {r : Bool} (hr : r = true ↔ ¬ atC ds a = atC ds b) : NSt T S cs (joinC ds a b) (r || sm) := by
  have hl := h.ok.len
  have ha' : 0 ≤ a ∧ a < (ds.length : Int) := by omega
  have hb' : 0 ≤ b ∧ b < (ds.length : Int) := by omega
  have hm := joinC_mass_le h.ok ha' hb'
  refine ⟨h.ok.join ha' hb' g, Has.joinC hT hL h.ok h.has a b, Nat.le_trans hm h.mass, fun e => ?_, fun e => ?_⟩
  · cases r with
    | true => exact Nat.lt_of_lt_of_le (joinC_mass h.ok ha' hb' (hr.1 rfl)) h.mass
    | false => exact Nat.lt_of_le_of_lt hm (h.less e)
  · cases r with
    | true => cases e
    | false =>
      rw [joinC_same (Classical.byContradiction fun hn => by have := hr.2 hn; cases this)]
      exact h.same e
theorem NSt.cg (h : NSt T S cs ds sm) {a b : Int} (ha : 0 ≤ a ∧ a < (T.length : Int) + 1) (hb : 0 ≤ b ∧ b < (T.length : Int) + 1) (e : atC ds a = atC ds b) : Cg T S a b := by
  have hl := h.ok.len
  have ra := (h.ok.rng (a := a) (by omega) (by omega)).2.2.2
  have rb := (h.ok.rng (a := b) (by omega) (by omega)).2.2.2
  rw [e] at ra
  exact ra.trans rb.symm
/-- What nots leaves: whether something was joined; else each OpNot is right. -/
def NotsIs (T : List Nd) (S : Int → Prop) (B g n cp : Nat) (cs : List Int) (w : World) (e : Ending) (w' : World) : Prop := ∃ (r : Bool) (ds : List Int), e = .returned (.bool r) ∧ Crow w' B g n cp ds ∧ NSt T S cs ds r ∧ (r = false → ∀ (i : Nat) (m : Nd), T[i]? = some m → m.op = 1 → NotOk (atC cs) T.length i m.a0) ∧ Kept (fun k => k = g) w w'
end
theorem not_row {T : List Nd} (hT : TabOk T) {i : Nat} {m : Nd} (hm : T[i]? = some m) (h1 : m.op = 1) : 0 ≤ m.a0 ∧ m.a0 < i ∧ i < T.length := by
  have := (hT.st i m hm).not0 h1
  have := (List.getElem?_eq_some_iff.1 hm).1
  omega

set_option maxRecDepth 100000 in
set_option maxHeartbeats 4000000 in
theorem nots_ok {w : World} {A : Option Addr} {c : Nat} {T : List Nd} {S : Int → Prop} {B g cp : Nat} {cs : List Int} (h : Tab w A T) (hAg : ∀ a, A = some a → a.block ≠ g) (hT : TabOk T) (hT1 : T.length ≤ 60) (hL : ∀ x, S x → LitMay T x) (hc : Crow w B g (T.length + 1) cp cs) (ho : RefOk T S cs) (hh : Has T S (atC cs)) :
    Calls Try.prog 29 #[.agg #[.slice A T.length c], .slice (some ⟨g, 0, none⟩) (T.length + 1) cp] w (NotsIs T S B g (T.length + 1) cp cs w) := by
  have HX0 := Lib.hid (Blk.new w 24 #[.slice A T.length c])
  have HC0 := Lib.hid (hc.below ((Below.refl _ w).alloc (Nat.le_refl _) (.cells #[.slice A T.length c] 24)))
  have HK0 : Hid (Kept (fun k => k = g) w (w.alloc (.cells #[.slice A T.length c] 24))) := Lib.hid ((Kept.refl _ w).alloc _)
  have HGX : Hid (¬ w.heap.size = g) := Lib.hid (by have := hc.lt.2; omega)
  have H := Lib.hid h
  have HT := Lib.hid hT
  have HLL := Lib.hid hL
  have HAg := Lib.hid hAg
  have HST := Lib.hid (NSt.start ho hh)
  clear h hAg hT hL hc ho hh
  go_enter Try.func29, Try.ntmps29
  go_wp2
  go_loopg [6, 7] T.length (fun gk vs vi wr => ∃ (i : Nat) (sm : Bool) (ds : List Int), i + gk = T.length ∧ vs = .bool sm ∧ vi = .int .i64 i ∧ Crow wr B g (T.length + 1) cp ds ∧ NSt T S cs ds sm ∧ (sm = false → ∀ (j : Nat) (m : Nd), j < i → T[j]? = some m → m.op = 1 → NotOk (atC cs) T.length j m.a0) ∧ Kept (fun k => k = g) w wr ∧ Blk wr w.heap.size 24 #[.slice A T.length c])
  case atStart => exact ⟨0, false, cs, by omega, rfl, rfl, HC0.out, HST.out, fun _ j m hj => absurd hj (Nat.not_lt_zero _), HK0.out, HX0.out⟩
  case round =>
    obtain ⟨i, sm, ds, hig, rfl, rfl, hc, hst, hok, hk, hbl⟩ := hrel
    have HC := Lib.hid hc
    have HS := Lib.hid hst
    have HOK := Lib.hid hok
    have HK := Lib.hid hk
    have HX := Lib.hid hbl
    have c0 := hbl.cell 0
    have hls := hbl.lt
    simp only [List.getElem?_toArray, List.getElem?_cons_zero] at c0
    clear hc hst hok hk hbl
    cases gk with
    | zero =>
      obtain rfl : i = T.length := by omega
      have d1 : decide ((T.length : Int) < T.length) = false := by simp
      go_wp2
      go_ret
      exact ⟨sm, ds, rfl, HC.out, HS.out, fun e j m hj ho => HOK.out e j m (List.getElem?_eq_some_iff.1 hj).1 hj ho, HK.out⟩
    | succ gk =>
      have hlt : i < T.length := by omega
      have d1 : decide ((i : Int) < T.length) = true := by simp; omega
      have t1 : (0 : Int) ≤ (i : Int) := by omega
      have t2 : (i : Int) < (T.length : Int) := by omega
      have hTk : Hid (∀ w1, Kept (fun k => k = g) w w1 → Tab w1 A T) := Lib.hid fun w1 hk => ⟨H.out.len, H.out.at_.imp id fun ⟨b, off, h1, h2, h3⟩ => ⟨b, off, h1, Nat.lt_of_lt_of_le h2 hk.size, fun j hj => ⟨Nat.lt_of_lt_of_le h2 hk.size, fun x hx => (by
        have := hk.block b h2 (HAg.out _ h1)
        have e : w1.cell? ⟨b, off + j * 8 + x, none⟩ = w.cell? ⟨b, off + j * 8 + x, none⟩ := by unfold World.cell?; rw [this]
        rw [e]
        exact (h3 j hj).cells x hx), (h3 j hj).wf⟩⟩⟩
      obtain ⟨b, off, hA, hbb, hcell⟩ := (hTk.out wr HK.out).at_.resolve_left (by omega)
      subst hA
      have hn := hcell i hlt
      obtain ⟨y0, y1, y2, y3, y4, y5, y6, y7⟩ := hn.all
      have HG := Lib.hid (List.getElem?_eq_getElem hlt)
      clear hcell hn y1 y3 y4 y5 y6 y7
      generalize T[i] = nd at *
      by_cases o1 : nd.op = 1
      · have d2 : (nd.op != 1) = false := by simp [o1]
        have HO1 := Lib.hid o1
        have hrow := not_row HT.out HG.out o1
        obtain ⟨a, ha⟩ : ∃ a : Nat, nd.a0 = a := ⟨nd.a0.toNat, by omega⟩
        rw [ha] at y2 hrow
        have HA := Lib.hid ha
        have hai : a < i := by omega
        have t3 : (0 : Int) ≤ (a : Int) := by omega
        have t4 : (a : Int) < (T.length : Int) + 1 := by omega
        have t5 : (i : Int) < (T.length : Int) + 1 := by omega
        have t6 : (T.length : Int) < (T.length : Int) + 1 := by omega
        have t7 : (0 : Int) < (T.length : Int) + 1 := by omega
        have t8 : (0 : Int) ≤ (T.length : Int) := by omega
        have RI : Hid (0 ≤ (i : Int) ∧ (i : Int) < (T.length : Int) + 1) := Lib.hid ⟨t1, t5⟩
        have RA : Hid (0 ≤ (a : Int) ∧ (a : Int) < (T.length : Int) + 1) := Lib.hid ⟨t3, t4⟩
        have RN : Hid (0 ≤ (T.length : Int) ∧ (T.length : Int) < (T.length : Int) + 1) := Lib.hid ⟨t8, t6⟩
        have RZ : Hid (0 ≤ (0 : Int) ∧ (0 : Int) < (T.length : Int) + 1) := Lib.hid ⟨Int.le_refl _, t7⟩
        clear o1 ha hrow
        go_upto_region 7 with (fail)
        go_upto_region 8 with (fail)
        have y8 : wr.cell? ⟨g, a, none⟩ = some (.int .i64 (atC ds (a : Int))) := HC.out.cell (i := a) (by omega)
        have y9 : wr.cell? ⟨g, 0, none⟩ = some (.int .i64 (atC ds (0 : Int))) := HC.out.cell (i := 0) (by omega)
        obtain ⟨z1, hz1⟩ : ∃ z1, atC ds (a : Int) = z1 := ⟨_, rfl⟩
        obtain ⟨z2, hz2⟩ : ∃ z2, atC ds (0 : Int) = z2 := ⟨_, rfl⟩
        obtain ⟨tb, htb⟩ : ∃ tb, (z1 == z2) = tb := ⟨_, rfl⟩
        rw [hz1] at y8
        rw [hz2] at y9
        have HTB1 : Hid (tb = true ↔ atC ds (a : Int) = atC ds (0 : Int)) := Lib.hid (by rw [hz1, hz2, ← htb]; exact beq_iff_eq)
        clear hz1 hz2
        go_quiet (fail)
        have HCa1 := Lib.hid (HC.out.kept ((Kept.refl (fun _ => False) wr).drewN nq) (fun h => h))
        have HKa1 := Lib.hid (HK.out.drewN nq)
        have HXa1 := Lib.hid (HX.out.drewN nq)
        clear y8 y9 htb
        generalize wr.drewN nq = wa1 at *
        go_upto_if 40 with (fail)
        go_cut [6] from 12 to 92 (fun v6 wc1 => ∃ (sm' : Bool) (ds' : List Int), v6 = .bool sm' ∧ Crow wc1 B g (T.length + 1) cp ds' ∧ NSt T S cs ds' sm' ∧ (sm' = false → sm = false ∧ (atC cs (a : Int) = atC cs (0 : Int) → atC cs (i : Int) = atC cs (T.length : Int))) ∧ Kept (fun k => k = g) w wc1 ∧ Blk wc1 w.heap.size 24 #[.slice (some ⟨b, off, none⟩) T.length c])
        case first =>
          have KJ := Lib.hid (rjoin_ok HCa1.out (by omega) (a := (i : Int)) (b := (T.length : Int)) (by have := RI.out; omega) (by have := RN.out; omega))
          cases tb with
          | true =>
            have HE := Lib.hid (HTB1.out.1 rfl)
            go_wp2_with fail
            refine KJ.out.mono ?_
            rintro e w2 ⟨r, rfl, hr, hc2, hk2⟩
            have HC2 := Lib.hid hc2
            have HN2 := Lib.hid (NSt.join HT.out HLL.out HS.out RI.out RN.out (.not3 HG.out HO1.out (by rw [HA.out]; exact HS.out.cg RA.out RZ.out HE.out)) hr)
            have HR2 := Lib.hid hr
            have HK2 := Lib.hid (HKa1.out.trans hk2)
            have HX2 := Lib.hid (HXa1.out.kept hk2 HGX.out)
            have HSame := Lib.hid (fun e => HS.out.same e)
            clear hc2 hr hk2
            cases r with
            | true =>
              go_wp2_with fail
              go_meet
              exact ⟨true, _, rfl, HC2.out, HN2.out, fun e => (by cases e), HK2.out, HX2.out⟩
            | false =>
              go_wp2_with fail
              go_meet
              exact ⟨sm, _, rfl, HC2.out, HN2.out, fun e => ⟨e, fun _ => by rw [← HSame.out e]; exact Classical.byContradiction fun hn => by have := HR2.out.2 hn; cases this⟩, HK2.out, HX2.out⟩
          | false =>
            go_wp2_with fail
            go_meet
            exact ⟨sm, ds, rfl, HCa1.out, HS.out, fun e => ⟨e, fun h => by rw [← HS.out.same e] at h; have := HTB1.out.2 h; cases this⟩, HKa1.out, HXa1.out⟩
        case rest =>
          obtain ⟨wc1, rfl⟩ : ∃ x : World, x = wc := ⟨_, rfl⟩
          obtain ⟨sm1, ds1, rfl, hc, hst, hf, hk, hbl⟩ := hcut
          have HC1 := Lib.hid hc
          have HS1 := Lib.hid hst
          have HF1 := Lib.hid hf
          have HK1 := Lib.hid hk
          have HX1 := Lib.hid hbl
          have c1 := hbl.cell 0
          have hl1 := hbl.lt
          simp only [List.getElem?_toArray, List.getElem?_cons_zero] at c1
          clear hc hst hf hk hbl
          go_upto_region 10 with (fail)
          have y8 : wc1.cell? ⟨g, a, none⟩ = some (.int .i64 (atC ds1 (a : Int))) := HC1.out.cell (i := a) (by omega)
          have y9 : wc1.cell? ⟨g, T.length, none⟩ = some (.int .i64 (atC ds1 (T.length : Int))) := HC1.out.cell (i := T.length) (by omega)
          obtain ⟨z1, hz1⟩ : ∃ z1, atC ds1 (a : Int) = z1 := ⟨_, rfl⟩
          obtain ⟨z2, hz2⟩ : ∃ z2, atC ds1 (T.length : Int) = z2 := ⟨_, rfl⟩
          obtain ⟨tb, htb⟩ : ∃ tb, (z1 == z2) = tb := ⟨_, rfl⟩
          rw [hz1] at y8
          rw [hz2] at y9
          have HTB2 : Hid (tb = true ↔ atC ds1 (a : Int) = atC ds1 (T.length : Int)) := Lib.hid (by rw [hz1, hz2, ← htb]; exact beq_iff_eq)
          clear hz1 hz2
          go_quiet (fail)
          have HCa2 := Lib.hid (HC1.out.kept ((Kept.refl (fun _ => False) wc1).drewN nq) (fun h => h))
          have HKa2 := Lib.hid (HK1.out.drewN nq)
          have HXa2 := Lib.hid (HX1.out.drewN nq)
          clear y8 y9 htb
          generalize wc1.drewN nq = wa2 at *
          go_upto_if 56 with (fail)
          go_cut [6] from 12 to 92 (fun v6 wc2 => ∃ (sm' : Bool) (ds' : List Int), v6 = .bool sm' ∧ Crow wc2 B g (T.length + 1) cp ds' ∧ NSt T S cs ds' sm' ∧ (sm' = false → sm1 = false ∧ (atC cs (a : Int) = atC cs (T.length : Int) → atC cs (i : Int) = atC cs (0 : Int))) ∧ Kept (fun k => k = g) w wc2 ∧ Blk wc2 w.heap.size 24 #[.slice (some ⟨b, off, none⟩) T.length c])
          case first =>
            have KJ := Lib.hid (rjoin_ok HCa2.out (by omega) (a := (i : Int)) (b := (0 : Int)) (by have := RI.out; omega) (by have := RZ.out; omega))
            cases tb with
            | true =>
              have HE := Lib.hid (HTB2.out.1 rfl)
              go_wp2_with fail
              refine KJ.out.mono ?_
              rintro e w2 ⟨r, rfl, hr, hc2, hk2⟩
              have HC2 := Lib.hid hc2
              have HN2 := Lib.hid (NSt.join HT.out HLL.out HS1.out RI.out RZ.out (.not4 HG.out HO1.out (by rw [HA.out]; exact HS1.out.cg RA.out RN.out HE.out)) hr)
              have HR2 := Lib.hid hr
              have HK2 := Lib.hid (HKa2.out.trans hk2)
              have HX2 := Lib.hid (HXa2.out.kept hk2 HGX.out)
              have HSame := Lib.hid (fun e => HS1.out.same e)
              clear hc2 hr hk2
              cases r with
              | true =>
                go_wp2_with fail
                go_meet
                exact ⟨true, _, rfl, HC2.out, HN2.out, fun e => (by cases e), HK2.out, HX2.out⟩
              | false =>
                go_wp2_with fail
                go_meet
                exact ⟨sm1, _, rfl, HC2.out, HN2.out, fun e => ⟨e, fun _ => by rw [← HSame.out e]; exact Classical.byContradiction fun hn => by have := HR2.out.2 hn; cases this⟩, HK2.out, HX2.out⟩
            | false =>
              go_wp2_with fail
              go_meet
              exact ⟨sm1, ds1, rfl, HCa2.out, HS1.out, fun e => ⟨e, fun h => by rw [← HS1.out.same e] at h; have := HTB2.out.2 h; cases this⟩, HKa2.out, HXa2.out⟩
          case rest =>
            obtain ⟨wc2, rfl⟩ : ∃ x : World, x = wc := ⟨_, rfl⟩
            obtain ⟨sm2, ds2, rfl, hc, hst, hf, hk, hbl⟩ := hcut
            have HC2 := Lib.hid hc
            have HS2 := Lib.hid hst
            have HF2 := Lib.hid hf
            have HK2 := Lib.hid hk
            have HX2 := Lib.hid hbl
            have c2 := hbl.cell 0
            have hl2 := hbl.lt
            simp only [List.getElem?_toArray, List.getElem?_cons_zero] at c2
            clear hc hst hf hk hbl
            go_upto_region 12 with (fail)
            have y8 : wc2.cell? ⟨g, i, none⟩ = some (.int .i64 (atC ds2 (i : Int))) := HC2.out.cell (i := i) (by omega)
            have y9 : wc2.cell? ⟨g, 0, none⟩ = some (.int .i64 (atC ds2 (0 : Int))) := HC2.out.cell (i := 0) (by omega)
            obtain ⟨z1, hz1⟩ : ∃ z1, atC ds2 (i : Int) = z1 := ⟨_, rfl⟩
            obtain ⟨z2, hz2⟩ : ∃ z2, atC ds2 (0 : Int) = z2 := ⟨_, rfl⟩
            obtain ⟨tb, htb⟩ : ∃ tb, (z1 == z2) = tb := ⟨_, rfl⟩
            rw [hz1] at y8
            rw [hz2] at y9
            have HTB3 : Hid (tb = true ↔ atC ds2 (i : Int) = atC ds2 (0 : Int)) := Lib.hid (by rw [hz1, hz2, ← htb]; exact beq_iff_eq)
            clear hz1 hz2
            go_quiet (fail)
            have HCa3 := Lib.hid (HC2.out.kept ((Kept.refl (fun _ => False) wc2).drewN nq) (fun h => h))
            have HKa3 := Lib.hid (HK2.out.drewN nq)
            have HXa3 := Lib.hid (HX2.out.drewN nq)
            clear y8 y9 htb
            generalize wc2.drewN nq = wa3 at *
            go_upto_if 70 with (fail)
            go_cut [6] from 12 to 92 (fun v6 wc3 => ∃ (sm' : Bool) (ds' : List Int), v6 = .bool sm' ∧ Crow wc3 B g (T.length + 1) cp ds' ∧ NSt T S cs ds' sm' ∧ (sm' = false → sm2 = false ∧ (atC cs (i : Int) = atC cs (0 : Int) → atC cs (a : Int) = atC cs (T.length : Int))) ∧ Kept (fun k => k = g) w wc3 ∧ Blk wc3 w.heap.size 24 #[.slice (some ⟨b, off, none⟩) T.length c])
            case first =>
              have KJ := Lib.hid (rjoin_ok HCa3.out (by omega) (a := (a : Int)) (b := (T.length : Int)) (by have := RA.out; omega) (by have := RN.out; omega))
              cases tb with
              | true =>
                have HE := Lib.hid (HTB3.out.1 rfl)
                go_wp2_with fail
                refine KJ.out.mono ?_
                rintro e w2 ⟨r, rfl, hr, hc2, hk2⟩
                have HC2 := Lib.hid hc2
                have HN2 := Lib.hid (NSt.join HT.out HLL.out HS2.out RA.out RN.out (by rw [← HA.out]; exact .not1 HG.out HO1.out (HS2.out.cg RI.out RZ.out HE.out)) hr)
                have HR2 := Lib.hid hr
                have HK2 := Lib.hid (HKa3.out.trans hk2)
                have HX2 := Lib.hid (HXa3.out.kept hk2 HGX.out)
                have HSame := Lib.hid (fun e => HS2.out.same e)
                clear hc2 hr hk2
                cases r with
                | true =>
                  go_wp2_with fail
                  go_meet
                  exact ⟨true, _, rfl, HC2.out, HN2.out, fun e => (by cases e), HK2.out, HX2.out⟩
                | false =>
                  go_wp2_with fail
                  go_meet
                  exact ⟨sm2, _, rfl, HC2.out, HN2.out, fun e => ⟨e, fun _ => by rw [← HSame.out e]; exact Classical.byContradiction fun hn => by have := HR2.out.2 hn; cases this⟩, HK2.out, HX2.out⟩
              | false =>
                go_wp2_with fail
                go_meet
                exact ⟨sm2, ds2, rfl, HCa3.out, HS2.out, fun e => ⟨e, fun h => by rw [← HS2.out.same e] at h; have := HTB3.out.2 h; cases this⟩, HKa3.out, HXa3.out⟩
            case rest =>
              obtain ⟨wc3, rfl⟩ : ∃ x : World, x = wc := ⟨_, rfl⟩
              obtain ⟨sm3, ds3, rfl, hc, hst, hf, hk, hbl⟩ := hcut
              have HC3 := Lib.hid hc
              have HS3 := Lib.hid hst
              have HF3 := Lib.hid hf
              have HK3 := Lib.hid hk
              have HX3 := Lib.hid hbl
              have c3 := hbl.cell 0
              have hl3 := hbl.lt
              simp only [List.getElem?_toArray, List.getElem?_cons_zero] at c3
              clear hc hst hf hk hbl
              go_upto_region 14 with (fail)
              have y8 : wc3.cell? ⟨g, i, none⟩ = some (.int .i64 (atC ds3 (i : Int))) := HC3.out.cell (i := i) (by omega)
              have y9 : wc3.cell? ⟨g, T.length, none⟩ = some (.int .i64 (atC ds3 (T.length : Int))) := HC3.out.cell (i := T.length) (by omega)
              obtain ⟨z1, hz1⟩ : ∃ z1, atC ds3 (i : Int) = z1 := ⟨_, rfl⟩
              obtain ⟨z2, hz2⟩ : ∃ z2, atC ds3 (T.length : Int) = z2 := ⟨_, rfl⟩
              obtain ⟨tb, htb⟩ : ∃ tb, (z1 == z2) = tb := ⟨_, rfl⟩
              rw [hz1] at y8
              rw [hz2] at y9
              have HTB4 : Hid (tb = true ↔ atC ds3 (i : Int) = atC ds3 (T.length : Int)) := Lib.hid (by rw [hz1, hz2, ← htb]; exact beq_iff_eq)
              clear hz1 hz2
              go_quiet (fail)
              have HCa4 := Lib.hid (HC3.out.kept ((Kept.refl (fun _ => False) wc3).drewN nq) (fun h => h))
              have HKa4 := Lib.hid (HK3.out.drewN nq)
              have HXa4 := Lib.hid (HX3.out.drewN nq)
              clear y8 y9 htb
              generalize wc3.drewN nq = wa4 at *
              go_upto_if 86 with (fail)
              have HJ := Lib.hid (rjoin_ok HCa4.out (by omega) (a := (a : Int)) (b := (0 : Int)) (by have := RA.out; omega) (by have := RZ.out; omega))
              cases tb with
              | true =>
                have HE := Lib.hid (HTB4.out.1 rfl)
                go_wp2_with fail
                refine HJ.out.mono ?_
                rintro e w2 ⟨r, rfl, hr, hc2, hk2⟩
                have HC2 := Lib.hid hc2
                have HN2 := Lib.hid (NSt.join HT.out HLL.out HS3.out RA.out RZ.out (by rw [← HA.out]; exact .not2 HG.out HO1.out (HS3.out.cg RI.out RN.out HE.out)) hr)
                have HR2 := Lib.hid hr
                have HK2 := Lib.hid (HKa4.out.trans hk2)
                have HX2 := Lib.hid (HXa4.out.kept hk2 HGX.out)
                have HSame := Lib.hid (fun e => HS3.out.same e)
                clear hc2 hr hk2
                cases r with
                | true =>
                  go_wp2_with fail
                  go_roundg gk
                  case measure => omega
                  case rel =>
                    refine ⟨i + 1, true, _, by omega, rfl, by go_num, HC2.out, HN2.out, fun e j m hj hm ho => ?_, HK2.out, HX2.out⟩
                    cases e
                | false =>
                  go_wp2_with fail
                  go_roundg gk
                  case measure => omega
                  case rel =>
                    refine ⟨i + 1, sm3, _, by omega, rfl, by go_num, HC2.out, HN2.out, fun e j m hj hm ho => ?_, HK2.out, HX2.out⟩
                    have e3 := e
                    have f4 := fun (_ : atC cs (i : Int) = atC cs (T.length : Int)) => (show atC cs (a : Int) = atC cs 0 by rw [← HSame.out e]; exact Classical.byContradiction fun hn => by have := HR2.out.2 hn; cases this)
                    obtain ⟨e2, f3⟩ := HF3.out e3
                    obtain ⟨e1, f2⟩ := HF2.out e2
                    obtain ⟨e0, f1⟩ := HF1.out e1
                    by_cases hji : j < i
                    · exact HOK.out e0 j m hji hm ho
                    · obtain rfl : j = i := by omega
                      obtain rfl : nd = m := Option.some.inj (HG.out.symm.trans hm)
                      rw [HA.out]
                      exact ⟨f3, f4, f1, f2⟩
              | false =>
                go_wp2_with fail
                go_roundg gk
                case measure => omega
                case rel =>
                  refine ⟨i + 1, sm3, ds3, by omega, rfl, by go_num, HCa4.out, HS3.out, fun e j m hj hm ho => ?_, HKa4.out, HXa4.out⟩
                  have e3 := e
                  have f4 := fun (h : atC cs (i : Int) = atC cs (T.length : Int)) => (show atC cs (a : Int) = atC cs 0 by rw [← HS3.out.same e] at h; have := HTB4.out.2 h; cases this)
                  obtain ⟨e2, f3⟩ := HF3.out e3
                  obtain ⟨e1, f2⟩ := HF2.out e2
                  obtain ⟨e0, f1⟩ := HF1.out e1
                  by_cases hji : j < i
                  · exact HOK.out e0 j m hji hm ho
                  · obtain rfl : j = i := by omega
                    obtain rfl : nd = m := Option.some.inj (HG.out.symm.trans hm)
                    rw [HA.out]
                    exact ⟨f3, f4, f1, f2⟩
      · have d2 : (nd.op != 1) = true := by simp [o1]
        have HO1 := Lib.hid o1
        clear o1
        go_wp2_with fail
        go_roundg gk
        case measure => omega
        case rel =>
          refine ⟨i + 1, sm, ds, by omega, rfl, by go_num, HC.out, HS.out, fun e j m hj hm ho => ?_, HK.out, HX.out⟩
          by_cases hji : j < i
          · exact HOK.out e j m hji hm ho
          · obtain rfl : j = i := by omega
            obtain rfl : nd = m := Option.some.inj (HG.out.symm.trans hm)
            exact absurd ho HO1.out
end Go.Proofs.Ytbgbhfmchpdkcaa

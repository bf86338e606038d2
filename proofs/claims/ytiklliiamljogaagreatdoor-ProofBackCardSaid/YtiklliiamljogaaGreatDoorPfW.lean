/- numbers and its iterator. -/
import Derived.Test.YtiklliiamljogaaGreatDoorPfT
import Derived.Test.YtiklliiamljogaaGreatDoorBldB
import Derived.Test.YtiklliiamljogaaGreatDoorTreeD
import Derived.Test.YtiklliiamljogaaGreatDoorClA
import Derived.Maps.Own
import Derived.Maps.OwnOps
import Derived.Maps.OwnSet
import Derived.Maps.Views
namespace Go.Proofs.YtiklliiamljogaaGreatDoor
open Go.RowKit

theorem numbers_fn {w : World} (A : Option Addr) (n c : Nat) :
    Calls Tryz.prog 60 #[.slice A n c] w fun e w' => e = .returned (.func (.func 73) #[] #[.pointer (some ⟨w.heap.size, 0, none⟩)]) ∧ w' = w.alloc (.cells #[.slice A n c] 26) := by
  go_enter Tryz.func60, Tryz.ntmps60
  go_wp2
  go_ret
  exact ⟨rfl, rfl⟩

theorem numQ_of {k : Int} {t : List UInt8} {l : List Sx} {n q : Int} (h : (n, q) = parseN t) : numQ (.mk k t l) = if (q == 0) = true then (if (k == 1) = true then (if (l.length == 0) = true then n else -1) else -1) else -1 := by
  unfold numQ
  show (if (parseN t).2 = 0 ∧ k = 1 ∧ l = [] then some (parseN t).1 else none).getD (-1) = _
  rw [← h]
  dsimp only
  simp only [beq_iff_eq, List.length_eq_zero_iff]
  by_cases h1 : q = 0
  · by_cases h2 : k = 1
    · by_cases h3 : l = []
      · rw [if_pos ⟨h1, h2, h3⟩, if_pos h1, if_pos h2, if_pos h3]; rfl
      · rw [if_neg (fun h => h3 h.2.2), if_pos h1, if_pos h2, if_neg h3]; rfl
    · rw [if_neg (fun h => h2 h.2.1), if_pos h1, if_neg h2]; rfl
  · rw [if_neg (fun h => h1 h.1), if_neg h1]; rfl

set_option maxHeartbeats 4000000 in
set_option maxRecDepth 100000 in
theorem numbers_iter (l b1 : Nat) (xs : List Sx) (A : Option Addr) (cl : Nat) (S : Nat → Prop) (X : Nat → World → Prop) (hl : xs.length ≤ 100000000) (hs : ∀ x ∈ xs, x.text.length ≤ 100000000)
    (hX : ∀ k W W', X k W → Below W.heap.size W W' → X k W')
    (hXg : ∀ k W, X k W → Kids S W A xs ∧ Blk W b1 26 #[.slice A xs.length cl])
    (hY : ∀ (k : Nat) (W : World) (hk : k < xs.length), X k W →
      ∃ fn tmps assign body, (Instr.yield l #[.int .i64 (numQ xs[k])]).run Tryz.prog W = .ok (.round l fn tmps assign body) W ∧
        RoundIn Fence.wide 0 Tryz.prog l fn tmps assign body W fun e W' => e = .returned (.bool true) ∧ X (k + 1) W')
    (w : World) (hx0 : X 0 w) :
    Calls Tryz.prog 73 #[.func (.yield l) #[] #[], .pointer (some ⟨b1, 0, none⟩)] w fun e W' => e = .returned (.tuple #[]) ∧ X xs.length W' := by
  have hg0 := hXg _ _ hx0
  have c0 := hg0.2.cell 0
  simp only [List.getElem?_toArray, List.getElem?_cons_zero] at c0
  have HXg := Lib.hid hXg
  have HX := Lib.hid hX
  have HY := Lib.hid hY
  have HS := Lib.hid hs
  have Hx0 := Lib.hid hx0
  clear hXg hY hx0 hg0 hX hs
  go_enter Tryz.func73, Tryz.ntmps73
  go_wp2
  go_loopw [9] (fun vi wr => ∃ j : Nat, j ≤ xs.length ∧ vi = .int .i64 j ∧ X j wr) (fun vi _ => (xs.length - intOf vi).toNat)
  case atStart => exact ⟨0, Nat.zero_le _, rfl, Hx0.out⟩
  case round =>
    obtain ⟨j, hj, rfl, hx⟩ := hrel
    by_cases hin : j < xs.length
    · have d1 : decide ((j : Int) < xs.length) = true := decide_eq_true (by omega)
      have hjz : (j : Int) < (xs.length : Int) := by omega
      obtain ⟨hkids, _⟩ := HXg.out _ _ hx
      obtain ⟨b, off, k1, t1, B1, n1, m1, rfl, _, hlt, x0, x1, x2, hy⟩ := hkids j hin
      have htx := HS.out _ (List.getElem_mem hin)
      have hYY := fun W h => HY.out j W hin h
      obtain ⟨e, he⟩ : ∃ e, xs[j] = e := ⟨_, rfl⟩
      rw [he] at hy htx hYY
      obtain ⟨ek, eT, el⟩ := e
      obtain ⟨t, B, m, hv, rfl, hlc, _, hmax, hkk⟩ := hy.open_
      injection hv with hv
      injection hv with hv
      injection hv with e0 e1
      injection e1 with e1 e2
      injection e2 with e2 _
      injection e0 with _ e0
      injection e1 with e1
      injection e2 with a1 a2 a3
      subst e0 e1 a1 a2 a3
      have hts : t1.size < 9223372036854775807 := by
        have : (byts t1).length ≤ 100000000 := htx
        rw [byts_len] at this
        omega
      obtain ⟨wb, hwb⟩ : ∃ wb, wr.alloc (.cells #[.int .i8 k1, .string t1, .slice B1 el.length m1] 28) = wb := ⟨_, rfl⟩
      have hbb : Below wr.heap.size wr wb := hwb ▸ (Below.refl _ wr).alloc (Nat.le_refl _) _
      have hBB := Blk.new wr 28 #[.int .i8 k1, .string t1, .slice B1 el.length m1]
      rw [hwb] at hBB
      have HP := Lib.hid (parse_ok t1 wb hts)
      have HBB := Lib.hid hBB
      have HB := Lib.hid hbb
      obtain ⟨y0, y1, y2, _⟩ := blk3 hBB
      have HYY := Lib.hid (fun w1 (h1 : Below wb.heap.size wb w1) => hYY w1 (HX.out _ _ _ hx (hbb.trans (h1.mono hbb.size))))
      clear hx hkids hy hkk htx hYY hbb hBB
      subst hwb
      obtain ⟨P, hP⟩ : ∃ P, parseN (byts t1) = P := ⟨_, rfl⟩
      obtain ⟨n0, q0⟩ := P
      have hnum := numQ_of (k := k1) (l := el) hP.symm
      rw [hnum] at HYY
      rw [hP] at HP
      clear hP hnum
      have nk : (k1 != 1) = !(k1 == 1) := rfl
      have nq : (q0 != 0) = !(q0 == 0) := rfl
      cases hq : q0 == 0 with
      | false =>
        rw [hq] at nq HYY
        rw [if_neg (by decide)] at HYY
        go_upto_region 6 with (go_at_call 74; refine HP.out.mono ?_; rintro e w1 ⟨⟨n1, q1, rfl, h1⟩, hb1⟩; injection h1 with h1 h2; subst h1 h2; obtain ⟨z0, z1, z2, _⟩ := blk3 (HBB.out.below hb1 HBB.out.lt); obtain ⟨fn, tmps, assign, body, hyield, hround⟩ := HYY.out w1 hb1)
        refine (wpIn_wide (n := 1)).1 ?_
        gi_wp2
        refine hround.mono ?_
        rintro e W5 ⟨rfl, hx5⟩
        have Hx5 := Lib.hid hx5
        clear hx5
        gi_wp2
        go_wp2
        exact ⟨⟨j + 1, by omega, by go_num, Hx5.out⟩, by simp only [intOf]; omega⟩
      | true =>
        rw [hq] at nq HYY
        rw [if_pos rfl] at HYY
        cases hk1 : k1 == 1 with
        | false =>
          rw [hk1] at nk HYY
          rw [if_neg (by decide)] at HYY
          go_upto_region 6 with (go_at_call 74; refine HP.out.mono ?_; rintro e w1 ⟨⟨n1, q1, rfl, h1⟩, hb1⟩; injection h1 with h1 h2; subst h1 h2; obtain ⟨z0, z1, z2, _⟩ := blk3 (HBB.out.below hb1 HBB.out.lt); obtain ⟨fn, tmps, assign, body, hyield, hround⟩ := HYY.out w1 hb1)
          refine (wpIn_wide (n := 1)).1 ?_
          gi_wp2
          refine hround.mono ?_
          rintro e W5 ⟨rfl, hx5⟩
          have Hx5 := Lib.hid hx5
          clear hx5
          gi_wp2
          go_wp2
          exact ⟨⟨j + 1, by omega, by go_num, Hx5.out⟩, by simp only [intOf]; omega⟩
        | true =>
          rw [hk1] at nk HYY
          rw [if_pos rfl] at HYY
          by_cases hel : el.length = 0
          · have d5 : decide ((el.length : Int) > 0) = false := decide_eq_false (by omega)
            have d6 : decide ((0 : Int) < (el.length : Int)) = false := d5
            have d7 : decide (0 < el.length) = false := decide_eq_false (by omega)
            rw [if_pos (beq_iff_eq.2 hel)] at HYY
            clear hel
            go_upto_region 6 with (go_at_call 74; refine HP.out.mono ?_; rintro e w1 ⟨⟨n1, q1, rfl, h1⟩, hb1⟩; injection h1 with h1 h2; subst h1 h2; obtain ⟨z0, z1, z2, _⟩ := blk3 (HBB.out.below hb1 HBB.out.lt); obtain ⟨fn, tmps, assign, body, hyield, hround⟩ := HYY.out w1 hb1)
            refine (wpIn_wide (n := 1)).1 ?_
            gi_wp2
            refine hround.mono ?_
            rintro e W5 ⟨rfl, hx5⟩
            have Hx5 := Lib.hid hx5
            clear hx5
            gi_wp2
            go_wp2
            exact ⟨⟨j + 1, by omega, by go_num, Hx5.out⟩, by simp only [intOf]; omega⟩
          · have d5 : decide ((el.length : Int) > 0) = true := decide_eq_true (by omega)
            have d6 : decide ((0 : Int) < (el.length : Int)) = true := d5
            have d7 : decide (0 < el.length) = true := decide_eq_true (by omega)
            rw [if_neg (fun h => hel (beq_iff_eq.1 h))] at HYY
            go_upto_region 6 with (go_at_call 74; refine HP.out.mono ?_; rintro e w1 ⟨⟨n1, q1, rfl, h1⟩, hb1⟩; injection h1 with h1 h2; subst h1 h2; obtain ⟨z0, z1, z2, _⟩ := blk3 (HBB.out.below hb1 HBB.out.lt); obtain ⟨fn, tmps, assign, body, hyield, hround⟩ := HYY.out w1 hb1)
            refine (wpIn_wide (n := 1)).1 ?_
            gi_wp2
            refine hround.mono ?_
            rintro e W5 ⟨rfl, hx5⟩
            have Hx5 := Lib.hid hx5
            clear hx5
            gi_wp2
            go_wp2
            exact ⟨⟨j + 1, by omega, by go_num, Hx5.out⟩, by simp only [intOf]; omega⟩
    · have d1 : decide ((j : Int) < xs.length) = false := decide_eq_false (by omega)
      obtain rfl : j = xs.length := by omega
      have Hx := Lib.hid hx
      clear hx
      go_wp2
      go_end0
      exact ⟨rfl, Hx.out⟩
end Go.Proofs.YtiklliiamljogaaGreatDoor

/- A map by what it holds at each key. -/
namespace Go.Proofs.YtiklliiamljogaaGreatDoor
open Go.ChangeMaps Go.RowKit
open Go.Maps (Keyed)

def heldV (v : Value) : Option (DataW Value × List MemPlace) := some (.held v, [])
/-- Block b is a map of at most n entries; at each key it holds what f says. -/
def MapAt (P : Program) (k : TypeId) (w : World) (b n : Nat) (f : Value → Option Value) : Prop :=
  ∃ D, w.ownsMap P k heldV b n D ∧ ∀ key kl, keyOf P k key = some kl → ∀ zd, D.atKey kl zd = match f key with | some v => .held v | none => zd

section
variable {P : Program} {k : TypeId} {w w' : World} {b n : Nat} {f : Value → Option Value}
theorem MapAt.lt (h : MapAt P k w b n f) : b < w.heap.size := by
  obtain ⟨D, h, _⟩ := h
  exact h.lt
theorem MapAt.obj (h : MapAt P k w b n f) : ∃ es clock, w.heap[b]? = some (.map es clock) := by
  obtain ⟨D, ⟨es, clock, hb, _⟩, _⟩ := h
  exact ⟨es, clock, hb⟩
theorem MapAt.same (h : MapAt P k w b n f) (hb : w'.heap[b]? = w.heap[b]?) : MapAt P k w' b n f := by
  obtain ⟨D, ⟨es, clock, h1, h2⟩, h3⟩ := h
  exact ⟨D, ⟨es, clock, hb.trans h1, h2⟩, h3⟩
theorem MapAt.kept {S : Nat → Prop} (h : MapAt P k w b n f) (hk : Kept S w w') (hn : ¬ S b) : MapAt P k w' b n f := h.same (hk.block b h.lt hn)
theorem MapAt.alloc (h : MapAt P k w b n f) (o : Obj) : MapAt P k (w.alloc o) b n f := h.same (Below.heap_alloc w o b h.lt)
theorem MapAt.drew (h : MapAt P k w b n f) : MapAt P k w.drew b n f := h
theorem MapAt.drewN (h : MapAt P k w b n f) (i : Nat) : MapAt P k (w.drewN i) b n f := h
theorem MapAt.far (h : MapAt P k w b n f) {p : Addr} (hp : b ≠ p.block) (u : Value) : MapAt P k (w.setCell p u) b n f := h.same (Below.heap_setCell w p u b hp)
theorem MapAt.grown {row : Option Nat} (h : MapAt P k w b n f) (hg : w.grownBy w' row) (hn : some b ≠ row) : MapAt P k w' b n f := h.same (hg.block b h.lt hn)
theorem MapAt.below {B : Nat} (h : MapAt P k w b n f) (hb : Below B w w') (hl : b < B) : MapAt P k w' b n f := h.same (hb.block b hl)
theorem MapAt.made (P : Program) (k : TypeId) (w : World) : MapAt P k (w.alloc (.map #[] 0)) w.heap.size 0 (fun _ => none) :=
  ⟨_, World.ownsMap_made w P k heldV, fun _ _ _ _ => rfl⟩
theorem MapAt.mono (h : MapAt P k w b n f) {m : Nat} (hm : n ≤ m) : MapAt P k w b m f := by
  obtain ⟨D, h1, h2⟩ := h
  exact ⟨D, h1.mono hm, h2⟩
theorem MapAt.congr (h : MapAt P k w b n f) {g : Value → Option Value} (hg : ∀ key kl, keyOf P k key = some kl → g key = f key) : MapAt P k w b n g := by
  obtain ⟨D, h1, h2⟩ := h
  exact ⟨D, h1, fun key kl hkey zd => by rw [hg key kl hkey]; exact h2 key kl hkey zd⟩

/-- A look-up, as an equation. -/
theorem MapAt.look {t e : TypeId} (h : MapAt P k w b n f) (K : Keyed P k) (ht : P.underlying t = some (.map k e)) {z : Value} (hz : (zeroValue e).run P w = .ok z w) {key : Value} {kl : Lit} (hkey : keyOf P k key = some kl) (c : Bool) :
    (Instr.lookup t (.map (some b)) key c).run P w = .ok (match f key with | some v => (if c then .tuple #[v, .bool true] else v) | none => (if c then .tuple #[z, .bool false] else z)) w := by
  obtain ⟨D, ⟨es, clock, hb, F, _, rfl⟩, hf⟩ := h
  have hf0 := hf key kl hkey .nil
  rcases Go.Maps.fit_look c K ht hz hb F hkey with ⟨hrun, _, hat⟩ | ⟨e0, y, _, _, hrun, hRv, hat, _⟩
  · rw [hat] at hf0
    cases hfk : f key with
    | none => exact hrun
    | some v => rw [hfk] at hf0; cases hf0
  · rw [hat] at hf0
    injection hRv with hRv
    subst hRv
    cases hfk : f key with
    | none => rw [hfk] at hf0; cases hf0
    | some v =>
      rw [hfk] at hf0
      injection hf0 with hf0
      subst hf0
      exact hrun
/-- A store. -/
theorem MapAt.store {t e : TypeId} (h : MapAt P k w b n f) (K : Keyed P k) (ht : P.underlying t = some (.map k e)) (hn : n < maxLen) {key : Value} {kl : Lit} (hkey : keyOf P k key = some kl) (val : Value) {g : Value → Option Value}
    (hg : g key = some val) (hg' : ∀ x, x ≠ key → g x = f x) :
    ∃ w', (Instr.mapUpdate t (.map (some b)) key val).run P w = .ok () w' ∧ MapAt P k w' b (n + 1) g ∧ w.grownBy w' (some b) := by
  obtain ⟨D, h1, hf⟩ := h
  obtain ⟨w', hrun, h2, hgr⟩ := h1.update K ht hn hkey (d := .held val) (ps := []) rfl
  refine ⟨w', hrun, ⟨_, h2, fun x xl hx zd => ?_⟩, hgr⟩
  by_cases hxk : x = key
  · subst hxk
    rw [hkey] at hx
    injection hx with hx
    subst hx
    rw [hg, Go.Maps.atKey_put_same h1.isMap (K.key hkey)]
  · have hne : xl ≠ kl := by
      rintro rfl
      exact hxk (K.inj hx hkey)
    rw [hg' x hxk, Go.Maps.atKey_put_other hne, hf x xl hx]
/-- All is struck. -/
theorem MapAt.cleared {t e : TypeId} (h : MapAt P k w b n f) (ht : P.underlying t = some (.map k e)) (ty : TypeId) :
    ∃ w', (Builtin.clear_ #[t] ty #[.map (some b)]).run P w = .ok (.tuple #[]) w' ∧ MapAt P k w' b 0 (fun _ => none) ∧ w.grownBy w' (some b) := by
  obtain ⟨D, ⟨es, clock, hb, F, _, rfl⟩, hf⟩ := h
  refine ⟨setBlock w b (.map #[] clock), by simp [Builtin.clear_, run_underlying ht, MapKept.run_getObj_map hb, MapKept.run_setObj_map _ hb, Result.andThen]; rfl, ?_, ⟨rfl, rfl, rfl, by simp [setBlock], fun i _ hi => heap_setBlock_other hb _ (fun e => hi (by rw [e]))⟩⟩
  exact ⟨_, ⟨#[], clock, heap_setBlock_same hb _, ⟨by simp, MapKept.stamped_empty _, by simp⟩, Nat.le_refl _, rfl⟩, fun _ _ _ _ => rfl⟩
end
end Go.Proofs.YtiklliiamljogaaGreatDoor

/- kinds: a map of the heads. -/
namespace Go.Proofs.YtiklliiamljogaaGreatDoor
open Go.RowKit
open Go.Maps (Keyed)

def kF (i : Int) : Value → Option Value
  | .string t => (match kindT (byts t) with | some q => if q < i then some (.int .i8 q) else none | none => none)
  | _ => none
theorem kindT_eq {T : List UInt8} {q : Int} (h : kindT T = some q) : T = headK q ∧ 0 ≤ q ∧ q < 6 := by
  unfold kindT at h
  split at h
  · injection h with h; subst h; exact ⟨by assumption, by decide, by decide⟩
  split at h
  · injection h with h; subst h; exact ⟨by assumption, by decide, by decide⟩
  split at h
  · injection h with h; subst h; exact ⟨by assumption, by decide, by decide⟩
  split at h
  · injection h with h; subst h; exact ⟨by assumption, by decide, by decide⟩
  split at h
  · injection h with h; subst h; exact ⟨by assumption, by decide, by decide⟩
  split at h
  · injection h with h; subst h; exact ⟨by assumption, by decide, by decide⟩
  · cases h
def kindB (k : Int) : ByteArray := ⟨(headK k).toArray⟩
theorem head_byts (k : Int) : byts (kindB k) = headK k := by simp [byts, kindB]
theorem head_kind {k : Int} (h0 : 0 ≤ k) (h1 : k < 6) : kindT (headK k) = some k := by
  have : k = 0 ∨ k = 1 ∨ k = 2 ∨ k = 3 ∨ k = 4 ∨ k = 5 := by omega
  rcases this with rfl | rfl | rfl | rfl | rfl | rfl <;> rfl
theorem kF_same {i : Int} (h0 : 0 ≤ i) (h1 : i < 6) : kF (i + 1) (.string (kindB i)) = some (.int .i8 i) := by
  unfold kF
  dsimp only
  rw [head_byts, head_kind h0 h1]
  dsimp only
  rw [if_pos (by omega)]
theorem byts_one {s t : ByteArray} (h : byts s = byts t) : s = t := by
  obtain ⟨⟨s⟩⟩ := s
  obtain ⟨⟨t⟩⟩ := t
  simp [byts] at h
  rw [h]
theorem kF_other {i : Int} (x : Value) (hx : x ≠ .string (kindB i)) : kF (i + 1) x = kF i x := by
  cases x <;> try rfl
  rename_i t
  unfold kF
  dsimp only
  cases h : kindT (byts t) with
  | none => rfl
  | some q =>
    dsimp only
    by_cases hq : q = i
    · subst hq
      refine absurd ?_ hx
      rw [byts_one ((kindT_eq h).1.trans (head_byts q).symm)]
    · by_cases h2 : q < i
      · rw [if_pos h2, if_pos (by omega)]
      · rw [if_neg h2, if_neg (by omega)]
def kindF : Value → Option Value
  | .string t => (kindT (byts t)).map (Value.int .i8)
  | _ => none
theorem kF_all (x : Value) : kF 6 x = kindF x := by
  cases x <;> try rfl
  rename_i t
  unfold kF kindF
  dsimp only
  cases h : kindT (byts t) with
  | none => rfl
  | some q => dsimp only; rw [if_pos (kindT_eq h).2.2]; rfl
theorem str_key {s : ByteArray} (hs : s.size ≤ maxLen) : keyOf Tryz.prog 9 (.string s) = some (.string s.data.toList) := by
  simp [keyOf, Tryz.underlying9, mapKey, hs]
theorem K9 : Keyed Tryz.prog 9 := Go.Maps.string_keyed Tryz.underlying9
theorem kinds_step {i : Int} (h0 : 0 ≤ i) (h1 : i < 6) {W : World} {b n : Nat} (h : MapAt Tryz.prog 9 W b n (kF i)) (hn : n ≤ 10) :
    ∃ w', (Instr.mapUpdate 86 (.map (some b)) (.string (kindB i)) (.int .i8 i)).run Tryz.prog W = .ok () w' ∧ MapAt Tryz.prog 9 w' b (n + 1) (kF (i + 1)) ∧ W.grownBy w' (some b) :=
  h.store K9 Tryz.underlying86 (by unfold maxLen; omega) (str_key (by
    have : (kindB i).size = (headK i).length := by rw [← byts_len, head_byts]
    rw [this]
    unfold headK maxLen
    repeat' split
    all_goals decide)) _ (kF_same h0 h1) kF_other

theorem kinds_at {i : Int} {s : ByteArray} (hs : kindB i = s) (h0 : 0 ≤ i) (h1 : i < 6) {W : World} {b n : Nat} (h : MapAt Tryz.prog 9 W b n (kF i)) (hn : n ≤ 10) :
    ∃ w', (Instr.mapUpdate 86 (.map (some b)) (.string s) (.int .i8 i)).run Tryz.prog W = .ok () w' ∧ MapAt Tryz.prog 9 w' b (n + 1) (kF (i + 1)) ∧ W.grownBy w' (some b) := by
  subst hs
  exact kinds_step h0 h1 h hn
/-- The state at the loop's head. -/
structure KindsAt (w wx : World) (i : Nat) : Prop where
  map : MapAt Tryz.prog 9 wx w.heap.size i (kF i)
  blk : Blk wx (w.heap.size + 1) 70 formCells
  below : Below w.heap.size w wx
theorem KindsAt.step {w wx w' : World} {i : Nat} (h : KindsAt w wx i) {cs : Array Value} (hM : MapAt Tryz.prog 9 w' w.heap.size (i + 1) (kF (i + 1))) (hg : (wx.alloc (.cells cs 70)).grownBy w' (some w.heap.size)) : KindsAt w w' (i + 1) := by
  have hk : Kept (fun k => k = w.heap.size) wx w' := ((Kept.refl _ wx).alloc _).grown hg fun k hk => .inl (by injection hk with hk; exact hk.symm)
  exact ⟨hM, h.blk.kept hk (by omega), h.below.trans (hk.below h.below.size fun k hk => by omega)⟩
theorem form_cells {w wx : World} {i : Nat} (h : KindsAt w wx i) (j : Nat) : wx.cell? ⟨w.heap.size + 1, j, none⟩ = formCells[j]? := h.blk.cell j

set_option maxHeartbeats 4000000 in
set_option maxRecDepth 100000 in
theorem kinds_ok (w : World) : Calls Tryz.prog 58 #[] w fun e w' => e = .returned (.map (some w.heap.size)) ∧ MapAt Tryz.prog 9 w' w.heap.size 6 kindF ∧ Below w.heap.size w w' := by
  have hmm := @run_makeMap Tryz.prog
  obtain ⟨W, hW⟩ : ∃ W, w.alloc (.map #[] 0) = W := ⟨_, rfl⟩
  have hM := MapAt.made Tryz.prog 9 w
  rw [hW] at hM
  have hb : Below w.heap.size w W := hW ▸ (Below.refl _ w).alloc (Nat.le_refl _) _
  have hs : W.heap.size = w.heap.size + 1 := by rw [← hW]; simp
  have HM := Lib.hid hM
  have HB := Lib.hid hb
  have HF := Lib.hid (forms_ok W)
  rw [hs] at HF
  have HSZ := Lib.hid hs
  clear hM hb hs
  subst hW
  go_enter Tryz.func58, Tryz.ntmps58
  go_wp2_with (go_at_call 41; refine HF.out.mono ?_; rintro e w1 ⟨rfl, hF1, hb1⟩; have HF1 := Lib.hid hF1; have HB1 := Lib.hid hb1; clear hF1 hb1)
  have hat : KindsAt w w1 0 := ⟨(HM.out.below HB1.out (by omega)).congr fun key kl hk => by
      cases key <;> try rfl
      rename_i t
      unfold kF
      dsimp only
      cases h : kindT (byts t) with
      | none => rfl
      | some q => dsimp only; rw [if_neg (by have := (kindT_eq h).2.1; omega)], HF1.out, HB.out.trans (HB1.out.mono (by omega))⟩
  have HAT := Lib.hid hat
  clear hat
  go_loopw [7] (fun d wx => ∃ i : Nat, i ≤ 6 ∧ d = .int .i64 i ∧ KindsAt w wx i) (fun d _ => (6 - intOf d).toNat)
  case atStart => exact ⟨0, by omega, rfl, HAT.out⟩
  case round =>
    obtain ⟨i, hi, rfl, hK⟩ := hrel
    clear HAT HM HB HF HSZ HF1 HB1
    have hlt := hK.blk.lt
    have hc := form_cells hK
    have HK := Lib.hid hK
    clear hK
    rcases (by omega : i = 6 ∨ i = 0 ∨ i = 1 ∨ i = 2 ∨ i = 3 ∨ i = 4 ∨ i = 5) with rfl | rfl | rfl | rfl | rfl | rfl | rfl
    · go_wp2
      go_ret
      exact ⟨rfl, HK.out.map.congr fun key kl hk => (kF_all key).symm, HK.out.below⟩
    · have c0 := hc 0
      have c1 := hc 1
      simp only [formCells, List.getElem?_toArray, List.getElem?_cons_succ, List.getElem?_cons_zero] at c0 c1
      obtain ⟨w2, hrun, hM2, hg2⟩ := kinds_at (i := 0) (s := ⟨#[117, 110, 105, 116]⟩) rfl (by decide) (by decide) (HK.out.map.alloc (.cells #[.string ⟨#[117, 110, 105, 116]⟩, .int .i64 1] 70)) (by decide)
      have HR := Lib.hid (HK.out.step hM2 hg2)
      clear hM2 hg2 hc
      go_wp2
      go_roundw
      case rel => exact ⟨1, by omega, by go_num, HR.out⟩
      case measure => simp only [intOf]; omega
    · have c0 := hc 2
      have c1 := hc 3
      simp only [formCells, List.getElem?_toArray, List.getElem?_cons_succ, List.getElem?_cons_zero] at c0 c1
      obtain ⟨w2, hrun, hM2, hg2⟩ := kinds_at (i := 1) (s := ⟨#[115, 104, 97, 112, 101]⟩) rfl (by decide) (by decide) (HK.out.map.alloc (.cells #[.string ⟨#[115, 104, 97, 112, 101]⟩, .int .i64 1] 70)) (by decide)
      have HR := Lib.hid (HK.out.step hM2 hg2)
      clear hM2 hg2 hc
      go_wp2
      go_roundw
      case rel => exact ⟨2, by omega, by go_num, HR.out⟩
      case measure => simp only [intOf]; omega
    · have c0 := hc 4
      have c1 := hc 5
      simp only [formCells, List.getElem?_toArray, List.getElem?_cons_succ, List.getElem?_cons_zero] at c0 c1
      obtain ⟨w2, hrun, hM2, hg2⟩ := kinds_at (i := 2) (s := ⟨#[115, 104, 97, 114, 101]⟩) rfl (by decide) (by decide) (HK.out.map.alloc (.cells #[.string ⟨#[115, 104, 97, 114, 101]⟩, .int .i64 2] 70)) (by decide)
      have HR := Lib.hid (HK.out.step hM2 hg2)
      clear hM2 hg2 hc
      go_wp2
      go_roundw
      case rel => exact ⟨3, by omega, by go_num, HR.out⟩
      case measure => simp only [intOf]; omega
    · have c0 := hc 6
      have c1 := hc 7
      simp only [formCells, List.getElem?_toArray, List.getElem?_cons_succ, List.getElem?_cons_zero] at c0 c1
      obtain ⟨w2, hrun, hM2, hg2⟩ := kinds_at (i := 3) (s := ⟨#[101, 117, 102]⟩) rfl (by decide) (by decide) (HK.out.map.alloc (.cells #[.string ⟨#[101, 117, 102]⟩, .int .i64 0] 70)) (by decide)
      have HR := Lib.hid (HK.out.step hM2 hg2)
      clear hM2 hg2 hc
      go_wp2
      go_roundw
      case rel => exact ⟨4, by omega, by go_num, HR.out⟩
      case measure => simp only [intOf]; omega
    · have c0 := hc 8
      have c1 := hc 9
      simp only [formCells, List.getElem?_toArray, List.getElem?_cons_succ, List.getElem?_cons_zero] at c0 c1
      obtain ⟨w2, hrun, hM2, hg2⟩ := kinds_at (i := 4) (s := ⟨#[105, 100, 108]⟩) rfl (by decide) (by decide) (HK.out.map.alloc (.cells #[.string ⟨#[105, 100, 108]⟩, .int .i64 0] 70)) (by decide)
      have HR := Lib.hid (HK.out.step hM2 hg2)
      clear hM2 hg2 hc
      go_wp2
      go_roundw
      case rel => exact ⟨5, by omega, by go_num, HR.out⟩
      case measure => simp only [intOf]; omega
    · have c0 := hc 10
      have c1 := hc 11
      simp only [formCells, List.getElem?_toArray, List.getElem?_cons_succ, List.getElem?_cons_zero] at c0 c1
      obtain ⟨w2, hrun, hM2, hg2⟩ := kinds_at (i := 5) (s := ⟨#[114, 117, 112]⟩) rfl (by decide) (by decide) (HK.out.map.alloc (.cells #[.string ⟨#[114, 117, 112]⟩, .int .i64 0] 70)) (by decide)
      have HR := Lib.hid (HK.out.step hM2 hg2)
      clear hM2 hg2 hc
      go_wp2
      go_roundw
      case rel => exact ⟨6, by omega, by go_num, HR.out⟩
      case measure => simp only [intOf]; omega
end Go.Proofs.YtiklliiamljogaaGreatDoor

/- Head of any expression: the program's and the reference's. -/
namespace Go.Proofs.YtiklliiamljogaaGreatDoor
open Go.RowKit

theorem head_list (T t1 : List UInt8) (k1 : Int) (l1 r : List Sx) : Sx.head (.mk 3 T (.mk k1 t1 l1 :: r)) = if k1 = 0 then t1 else [] := by
  by_cases h : k1 = 0
  · subst h
    rw [if_pos rfl]
    rfl
  · rw [if_neg h]
    unfold Sx.head
    dsimp only
    rw [if_pos rfl]
    split
    · rename_i heq
      injection heq with h1 h2
      injection h1 with h3
      exact absurd h3 h
    · rfl

set_option maxHeartbeats 1000000 in
set_option maxRecDepth 100000 in
theorem headx_ok {S : Nat → Prop} (x : Sx) (w : World) (v : Value) (hv : Lies S w v x) : Calls Tryz.prog 59 #[v] w fun e w' => (∃ s, e = .returned (.string s) ∧ byts s = x.head) ∧ Below w.heap.size w w' := by
  obtain ⟨k, T, l⟩ := x
  obtain ⟨t, A, c, rfl, rfl, hlc, hnil, hmax, hk⟩ := hv.open_
  have hb0 : Below w.heap.size w (w.alloc (.cells #[.int .i8 k, .string t, .slice A l.length c] 28)) := (Below.refl _ w).alloc (Nat.le_refl _) _
  have HB0 := Lib.hid hb0
  have HK := Lib.hid (hk.keep hb0)
  obtain ⟨R, hR⟩ : ∃ R, (Sx.mk k (byts t) l).head = R := ⟨_, rfl⟩
  rw [hR]
  clear hk hnil hv hb0
  by_cases h3 : k = 3
  · subst h3
    cases l with
    | nil =>
      have HE := Lib.hid (show R = [] from hR.symm)
      clear hR HK
      go_enter Tryz.func59, Tryz.ntmps59
      go_wp2
      go_ret
      exact ⟨⟨⟨#[]⟩, rfl, by rw [HE.out]⟩, HB0.out⟩
    | cons y r =>
      obtain ⟨b, off, k1, t1, B1, n1, m1, rfl, _, hlt, y0, y1, y2, hy⟩ := HK.out 0 (Nat.zero_lt_succ _)
      obtain ⟨k2, T2, l2⟩ := y
      rw [List.getElem_cons_zero] at hy
      obtain ⟨t2, A2, c2, hv2, ht2, _⟩ := hy.open_
      injection hv2 with e
      injection e with e
      injection e with e0 e
      injection e with e1 e
      injection e0 with _ e0
      injection e1 with e1
      subst e0 e1
      have hpos : (0 : Int) < ((Sx.mk k1 T2 l2 :: r).length : Int) := by simp
      have d0 : (((Sx.mk k1 T2 l2 :: r).length : Int) == 0) = false := beq_eq_false_iff_ne.2 (by omega)
      have d1 : (0 : Nat) < (Sx.mk k1 T2 l2 :: r).length := Nat.zero_lt_succ _
      generalize hL : (Sx.mk k1 T2 l2 :: r).length = L at *
      rw [Nat.zero_mul, Nat.add_zero] at y0 y1 y2
      by_cases h0 : k1 = 0
      · subst h0
        have HE := Lib.hid (show R = byts t1 by rw [← hR, ht2, head_list, if_pos rfl])
        clear hR HK hy hL ht2
        go_enter Tryz.func59, Tryz.ntmps59
        go_wp2
        go_ret
        exact ⟨⟨_, rfl, HE.out.symm⟩, HB0.out⟩
      · have b0 : (k1 != 0) = true := bne_iff_ne.2 h0
        have b0' : (k1 == 0) = false := beq_eq_false_iff_ne.2 h0
        have HE := Lib.hid (show R = [] by rw [← hR, head_list, if_neg h0])
        clear hR HK hy hL ht2 h0
        go_enter Tryz.func59, Tryz.ntmps59
        go_wp2
        go_ret
        exact ⟨⟨⟨#[]⟩, rfl, by rw [HE.out]⟩, HB0.out⟩
  · have b3 : (k != 3) = true := bne_iff_ne.2 h3
    have b3' : (k == 3) = false := beq_eq_false_iff_ne.2 h3
    have HE := Lib.hid (show R = [] by rw [← hR]; unfold Sx.head; dsimp only; rw [if_neg h3])
    clear hR HK h3
    go_enter Tryz.func59, Tryz.ntmps59
    go_wp2
    go_ret
    exact ⟨⟨⟨#[]⟩, rfl, by rw [HE.out]⟩, HB0.out⟩
end Go.Proofs.YtiklliiamljogaaGreatDoor

/- A step read: the plain side, as the program goes. -/
namespace Go.Proofs.YtiklliiamljogaaGreatDoor
open Go.RowKit

/-- The step as the program takes it: -1 for a number that is none. -/
def stepS (x : Sx) (q : Int) : Stp := stepOf q ((x.kids.tail.take (manyK q)).map numQ) ((x.kids.getD (manyK q + 1) noSx).kids.map numQ)
/-- Has an expression a step's shape? -/
def shapeP (x : Sx) (q : Int) : Bool := isList x && ((x.kids.headD noSx).same (symS x.head) && (decide (x.kids.length = manyK q + 2) && isList (x.kids.getD (manyK q + 1) noSx)))
theorem kindT_nil : kindT [] = none := rfl
theorem many_le (q : Int) : manyK q ≤ 2 := by unfold manyK; split <;> (try split) <;> omega
theorem isList_eq {k : Int} {t : List UInt8} {l : List Sx} (h : isList (.mk k t l) = true) : k = 3 ∧ t = [] := by
  have h2 : (k == 3 && t.isEmpty) = true := h
  rw [Bool.and_eq_true, beq_iff_eq, List.isEmpty_iff] at h2
  exact h2
theorem head_not {k : Int} {t : List UInt8} {l : List Sx} (h : k ≠ 3) : Sx.head (.mk k t l) = [] := by
  unfold Sx.head
  dsimp only
  rw [if_neg h]
theorem stepP_some {x : Sx} {s : Stp} (h : stepP x = some s) : ∃ q, kindT x.head = some q ∧ shapeP x q = true := by
  obtain ⟨k, t, l⟩ := x
  unfold stepP at h
  dsimp only at h
  split at h
  · rename_i hkt
    obtain ⟨rfl, rfl⟩ := hkt
    split at h
    · cases h
    · rename_i y r
      split at h
      · cases h
      · rename_i q hq
        split at h
        · rename_i hc
          obtain ⟨ky, ty, ly⟩ := y
          unfold kindOf at hq
          dsimp only at hq
          split at hq
          · rename_i hkl
            obtain ⟨rfl, rfl⟩ := hkl
            have e : Sx.head (.mk 3 [] (.mk 0 ty [] :: r)) = ty := by rw [head_list, if_pos rfl]
            refine ⟨q, by rw [e]; exact hq, ?_⟩
            unfold shapeP
            rw [e]
            simp only [Bool.and_eq_true, decide_eq_true_eq]
            refine ⟨rfl, ?_, ?_, ?_⟩
            · exact (Sx.same_eq _ _).2 rfl
            · show r.length + 1 = _
              rw [hc.1]
            · exact hc.2
          · cases hq
        · cases h
  · cases h
theorem stepP_none {x : Sx} (h : kindT x.head = none) : stepP x = none := by
  cases hx : stepP x with
  | none => rfl
  | some s => obtain ⟨q, h1, _⟩ := stepP_some hx; rw [h] at h1; cases h1
theorem stepP_not {x : Sx} {q : Int} (hq : kindT x.head = some q) (h : shapeP x q = false) : stepP x = none := by
  cases hx : stepP x with
  | none => rfl
  | some s => obtain ⟨q', h1, h2⟩ := stepP_some hx; rw [hq] at h1; injection h1 with h1; rw [← h1, h] at h2; cases h2
theorem ns_fit : ∀ (l : List Int), l.length ≤ 2 → fitN (l.getD 0 0) = true → fitN (l.getD 1 0) = true → l.all fitN = true
  | [], _, _, _ => rfl
  | [a], _, h, _ => by simpa using h
  | [a, b], _, h, h2 => by
    rw [List.all_cons, List.all_cons]
    rw [show [a, b].getD 0 0 = a from rfl] at h
    rw [show [a, b].getD 1 0 = b from rfl] at h2
    rw [h, h2]; rfl
  | a :: b :: c :: r, h, _, _ => by simp only [List.length_cons] at h; omega
theorem shape_form {x : Sx} {q : Int} (hq : kindT x.head = some q) (h : shapeP x q = true) : ∃ r, x = .mk 3 [] (symS (headK q) :: r) ∧ r.length = manyK q + 1 ∧ isList (r.getD (manyK q) noSx) = true := by
  obtain ⟨k, t, l⟩ := x
  unfold shapeP at h
  simp only [Bool.and_eq_true, decide_eq_true_eq] at h
  obtain ⟨h1, h2, h3, h4⟩ := h
  obtain ⟨rfl, rfl⟩ := isList_eq h1
  cases l with
  | nil => cases h3
  | cons y r =>
    obtain ⟨ky, ty, ly⟩ := y
    rw [head_list] at hq h2
    by_cases hk : ky = 0
    · subst hk
      rw [if_pos rfl] at hq h2
      have h5 := (Sx.same_eq _ _).1 h2
      injection h5 with _ _ h5
      have h6 := (kindT_eq hq).1
      subst h5 h6
      exact ⟨r, rfl, by have : r.length + 1 = manyK q + 2 := h3; omega, h4⟩
    · rw [if_neg hk] at hq
      rw [kindT_nil] at hq; cases hq
theorem stepP_yes {x : Sx} {q : Int} (hq : kindT x.head = some q) (h : shapeP x q = true) : stepP x = if (stepS x q).may = true then some (stepS x q) else none := by
  obtain ⟨r, rfl, hr, hl⟩ := shape_form hq h
  have hk := kindT_eq hq
  have hko := kind_sx (kindT_eq hq).2.1 (kindT_eq hq).2.2
  have e : Sx.head (.mk 3 [] (symS (headK q) :: r)) = headK q := by unfold symS; rw [head_list, if_pos rfl]
  rw [e, head_kind hk.2.1 hk.2.2] at hq
  have hsS : stepS (.mk 3 [] (symS (headK q) :: r)) q = stepOf q ((r.take (manyK q)).map numQ) ((r.getD (manyK q) noSx).kids.map numQ) := rfl
  rw [hsS]
  unfold stepP
  dsimp only
  rw [if_pos ⟨rfl, rfl⟩, hko]
  dsimp only
  rw [if_pos ⟨hr, hl⟩]
  have hno : ∀ ns ls : List Int, ns.length ≤ 2 → (ns.all fitN = false ∨ ls.all fitN = false) → (stepOf q ns ls).may = false := fun ns ls h2 hc => by
    cases hm : (stepOf q ns ls).may with
    | false => rfl
    | true =>
      obtain ⟨_, _, _, ha, hb, hls, _⟩ := (may_iff _).1 hm
      rcases hc with hc | hc
      · rw [ns_fit ns h2 ha hb] at hc; cases hc
      · rw [show (stepOf q ns ls).l = ls from rfl, hc] at hls; cases hls
  have h2 : ((r.take (manyK q)).map numQ).length ≤ 2 := by have := many_le q; rw [List.length_map, List.length_take]; omega
  rcases numQ_all (r.take (manyK q)) with ⟨ns, e1, e2⟩ | ⟨e1, e2⟩
  · rcases numQ_all (r.getD (manyK q) noSx).kids with ⟨ls, e3, e4⟩ | ⟨e3, e4⟩
    · rw [e1, e3, e2, e4]
    · rw [e1, e3, if_neg (by rw [hno _ _ h2 (.inr e4)]; decide)]
  · rw [e1, if_neg (by rw [hno _ _ h2 (.inl e2)]; decide)]
end Go.Proofs.YtiklliiamljogaaGreatDoor

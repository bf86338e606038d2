/- What the laws call, each by one contract: Way, Back, same. -/
import Derived.Test.YthhnlkbnphiaoaaBack
import Derived.Deep.Fields
namespace Go.Proofs.Ythhnlkbnphiaoaa
open Go.RowKit Go.ChangeShapes Go.WideShapes Go.ChangeAt

/-- The reasons between two, or none. -/
def WayR (n : Int) (J : List Jn) (y x : Int) (rs : List Int) : Prop := if oneM n J y x = true then ∃ ns, Path J y x ns rs else rs = []
/-- A row of ints. -/
def RowOf (w : World) (base : Nat) (v : Value) (rs : List Int) : Prop := w.ownsRow base 3 1 v rs.length (rs.map fun r => .int .i64 r) ∧ rs.length ≤ 4096
theorem RowOf.kf {B base : Nat} {w w' : World} {v : Value} {rs : List Int} (h : RowOf w base v rs) (hk : Kf B w w') : RowOf w' base v rs := ⟨hk.row h.1, h.2⟩
theorem RowOf.below {base : Nat} {w w' : World} {v : Value} {rs : List Int} (h : RowOf w base v rs) (hb : Below w.heap.size w w') : RowOf w' base v rs := h.kf (B := 0) (Kf.of_below hb)
theorem RowOf.drewN {base : Nat} {w : World} {v : Value} {rs : List Int} (h : RowOf w base v rs) (d : Nat) : RowOf (w.drewN d) base v rs := h
theorem RowOf.lo {base base' : Nat} {w : World} {v : Value} {rs : List Int} (h : RowOf w base v rs) (hb : base' ≤ base) : RowOf w base' v rs := ⟨own_base h.1 (fun g hg => Nat.le_trans hb (h.1.lt g hg).1), h.2⟩
section
variable {w w' : World} {B bf bn bp m : Nat} {lj : Value} {N : Int → Value} {n : Int} {J : List Jn}
theorem way_ok (h : FR w B bf bn bp lj N n J m) (y x : Int) :
    Calls Try.prog 10 #[.pointer (some ⟨bf, 0, none⟩), .int .i64 y, .int .i64 x] w fun e w' => ∃ v rs, e = .returned (.tuple #[v, .bool (oneM n J y x)]) ∧ WayR n J y x rs ∧ RowOf w' w.heap.size v rs ∧ Below w.heap.size w w' := by
  by_cases hxy : (0 ≤ y ∧ y < n) ∧ (0 ≤ x ∧ x < n)
  · refine (way_walk h y x hxy.2 hxy.1).mono ?_
    rintro e w' ⟨v, rfl, h1, hb⟩
    unfold WayIs at h1
    by_cases hc : cls J x = cls J y
    · have ho : oneM n J y x = true := decide_eq_true ⟨hxy.1, hxy.2, hc.symm⟩
      rw [if_pos hc] at h1
      obtain ⟨ns, rs, hp, hr, hl⟩ := h1
      refine ⟨v, rs, ?_, ?_, ⟨hr, hl⟩, hb⟩
      · rw [ho, decide_eq_true hc]
      · unfold WayR
        rw [if_pos ho]
        exact ⟨ns, hp⟩
    · have ho : oneM n J y x = false := decide_eq_false fun hh => hc hh.2.2.symm
      rw [if_neg hc] at h1
      subst h1
      refine ⟨_, [], ?_, ?_, ⟨World.ownsRow_nil _ _ _ _, Nat.zero_le _⟩, hb⟩
      · rw [ho, decide_eq_false hc]
      · unfold WayR
        rw [if_neg (by rw [ho]; decide)]
  · have ho : oneM n J y x = false := decide_eq_false fun hh => hxy ⟨hh.1, hh.2.1⟩
    refine (way_out h y x (fun hh => hxy ⟨hh.1, hh.2⟩)).mono ?_
    rintro e w' ⟨rfl, hb⟩
    refine ⟨_, [], by rw [ho], ?_, ⟨World.ownsRow_nil _ _ _ _, Nat.zero_le _⟩, hb⟩
    unfold WayR
    rw [if_neg (by rw [ho]; decide)]

def backM (J : List Jn) (k : Int) : List Jn := if 0 ≤ k ∧ k ≤ J.length then J.take k.toNat else J
def backE (J : List Jn) (k : Int) : Int := if 0 ≤ k ∧ k ≤ J.length then 0 else 2
theorem back_ok (h : FR w B bf bn bp lj N n J m) (hm : m ≤ 500000) (k : Int) :
    Calls Try.prog 13 #[.pointer (some ⟨bf, 0, none⟩), .int .i64 k] w fun e w' => ∃ lj' N', e = .returned (.int .i64 (backE J k)) ∧ FR w' B bf bn bp lj' N' n (backM J k) (m + 2 * J.length) ∧ Kf B w w' := by
  by_cases hk : 0 ≤ k ∧ k ≤ J.length
  · obtain ⟨q, rfl⟩ := Int.eq_ofNat_of_zero_le hk.1
    have := back_in h hm q (by omega)
    unfold backE backM
    rw [if_pos hk, if_pos hk, Int.toNat_natCast]
    exact this
  · unfold backE backM
    rw [if_neg hk, if_neg hk]
    refine (back_arg h k (by omega)).mono ?_
    rintro e w' ⟨rfl, hb⟩
    exact ⟨_, _, rfl, (h.below hb).mono (by omega), Kf.of_below hb⟩

/-- Two rows of the same ints are the same. -/
theorem same_ok {B1 B2 : Nat} {v u : Value} {rs : List Int} (h1 : RowOf w B1 v rs) (h2 : RowOf w B2 u rs) :
    Calls Try.prog 12 #[v, u] w fun e w' => e = .returned (.bool true) ∧ ∃ k, w.drewN k = w' := by
  obtain ⟨A, ca, rfl⟩ := own_slice h1.1
  obtain ⟨A', cb, rfl⟩ := own_slice h2.1
  have hl := h1.2
  have HA : ∀ k (hk : k < rs.length), ∃ g, A = some ⟨g, 0, none⟩ ∧ w.cell? ⟨g, k, none⟩ = some (.int .i64 rs[k]) := fun k hk => by
    obtain ⟨g, c, e, _⟩ := own_form h1.1 (by omega)
    injection e with e _ _
    subst e
    refine ⟨g, rfl, ?_⟩
    have := h1.1.cells (g := g) rfl k (.int .i64 rs[k]) (by rw [List.getElem?_map, List.getElem?_eq_getElem hk]; rfl)
    rwa [addr_add] at this
  have HB : ∀ k (hk : k < rs.length), ∃ g, A' = some ⟨g, 0, none⟩ ∧ w.cell? ⟨g, k, none⟩ = some (.int .i64 rs[k]) := fun k hk => by
    obtain ⟨g, c, e, _⟩ := own_form h2.1 (by omega)
    injection e with e _ _
    subst e
    refine ⟨g, rfl, ?_⟩
    have := h2.1.cells (g := g) rfl k (.int .i64 rs[k]) (by rw [List.getElem?_map, List.getElem?_eq_getElem hk]; rfl)
    rwa [addr_add] at this
  have Ha := Lib.hid HA
  have Hb := Lib.hid HB
  clear HA HB h1 h2
  go_enter Try.func12, Try.ntmps12
  go_wp2
  go_loopw [5] (fun i wr => ∃ k : Nat, k ≤ rs.length ∧ i = .int .i64 k ∧ ∃ d, wr = w.drewN d) (fun i _ => rs.length - (intOf i).toNat)
  case atStart => exact ⟨0, Nat.zero_le _, rfl, 0, rfl⟩
  case round =>
    obtain ⟨k, hk, rfl, d, rfl⟩ := hrel
    by_cases hlt : k < rs.length
    · obtain ⟨a, rfl, e1⟩ := Ha.out k hlt
      obtain ⟨b, rfl, e2⟩ := Hb.out k hlt
      generalize rs[k] = x at *
      clear Ha Hb
      generalize rs.length = q at *
      go_wp2
      go_quiet (fail)
      go_wp2
      exact ⟨⟨k + 1, by omega, by go_num, _, rfl⟩, by simp [intOf]; omega⟩
    · go_wp2
      go_ret
      exact ⟨rfl, _, rfl⟩
end

/-! ### a slice of acts that came in -/
structure Act4 where
  d : Int
  a : Int
  b : Int
  r : Int
instance : Inhabited Act4 := ⟨⟨0, 0, 0, 0⟩⟩
def IsActs (w : World) (a : Option Addr) (len cap : Nat) (f : Nat → Act4) : Prop :=
  (a = none ∧ len = 0) ∨ ∃ x, a = some x ∧ len ≤ cap ∧ cap ≤ maxLen ∧ ∀ i, i < cap → w.cell? (x.add (i * 4)) = some (.int .i64 (f i).d) ∧ w.cell? ((x.add (i * 4)).add 1) = some (.int .i64 (f i).a) ∧ w.cell? ((x.add (i * 4)).add 2) = some (.int .i64 (f i).b) ∧ w.cell? ((x.add (i * 4)).add 3) = some (.int .i64 (f i).r)
theorem choose_below {α : Type} [Inhabited α] {m : Nat} {p : Nat → α → Prop} (h : ∀ i, i < m → ∃ x, p i x) : ∃ f : Nat → α, ∀ i, i < m → p i (f i) := by
  refine ⟨fun i => if hi : i < m then (h i hi).choose else default, fun i hi => ?_⟩
  simp only [hi, dif_pos]
  exact (h i hi).choose_spec
theorem isActs_of {H : Type} {enc : TypeId × Value → H} {P : Program} {W : World} {b : Nat} {hd : Bool} {t e : TypeId} {f0 f1 f2 f3 : Field} {a : Option Addr} {len cap : Nat} {d : DataW H} {p : List MemPlace}
    (ht : P.underlying t = some (.slice e)) (he : P.underlying e = some (.struct #[f0, f1, f2, f3])) (hone : Go.Deep.oneCellFields P #[f0, f1, f2, f3] = true) (hc : P.cellsOf e = 4)
    (g0 : P.underlying f0.type = some (.int .i64)) (g1 : P.underlying f1.type = some (.int .i64)) (g2 : P.underlying f2.type = some (.int .i64)) (g3 : P.underlying f3.type = some (.int .i64))
    (h : DataW.Trod enc P W b (fun _ => true) hd t (.slice a len cap) d p) : ∃ f, IsActs W a len cap f := by
  obtain ⟨fuel, hf⟩ := h
  rcases Go.Deep.open_slice ht hf with ⟨hcs, _⟩ | ⟨x, l, c, m, n, D, Pl, hcs, _, hl, hm, hmm, _, hx⟩
  · simp [Value.cells] at hcs
    obtain ⟨rfl, rfl, rfl⟩ := hcs
    exact ⟨fun _ => default, .inl ⟨rfl, rfl⟩⟩
  · simp [Value.cells] at hcs
    obtain ⟨rfl, rfl, rfl⟩ := hcs
    obtain rfl : m = cap := by simpa using hmm
    have each : ∀ i, i < m → ∃ q : Act4, W.cell? (x.add (i * 4)) = some (.int .i64 q.d) ∧ W.cell? ((x.add (i * 4)).add 1) = some (.int .i64 q.a) ∧ W.cell? ((x.add (i * 4)).add 2) = some (.int .i64 q.b) ∧ W.cell? ((x.add (i * 4)).add 3) = some (.int .i64 q.r) := by
      intro i hi
      obtain ⟨cs', h1, h2⟩ := hx i hi
      rw [hc] at h1
      obtain ⟨_, hlen, hcell⟩ := World.cells?_some h1
      obtain ⟨xs, k, _, _, _, hxl, hfd⟩ := DataW.trod_struct he h2
      match xs, hxl, cs', hlen with
      | [y0, y1, y2, y3], _, [v0, v1, v2, v3], _ =>
        obtain ⟨o0, c0⟩ := Go.Deep.hone_of hone 0 f0 rfl
        obtain ⟨o1, c1⟩ := Go.Deep.hone_of hone 1 f1 rfl
        obtain ⟨o2, c2⟩ := Go.Deep.hone_of hone 2 f2 rfl
        obtain ⟨o3, c3⟩ := Go.Deep.hone_of hone 3 f3 rfl
        have k0 := hfd 0 f0 rfl
        have k1 := hfd 1 f1 rfl
        have k2 := hfd 2 f2 rfl
        have k3 := hfd 3 f3 rfl
        simp [o0, o1, o2, o3, c0, c1, c2, c3] at k0 k1 k2 k3
        obtain ⟨n0, e0, _⟩ := DataW.trod_int g0 k0
        obtain ⟨n1, e1, _⟩ := DataW.trod_int g1 k1
        obtain ⟨n2, e2, _⟩ := DataW.trod_int g2 k2
        obtain ⟨n3, e3, _⟩ := DataW.trod_int g3 k3
        injection e0 with e0
        injection e1 with e1
        injection e2 with e2
        injection e3 with e3
        subst e0 e1 e2 e3
        have j0 := hcell 0 (by omega)
        have j1 := hcell 1 (by omega)
        have j2 := hcell 2 (by omega)
        have j3 := hcell 3 (by omega)
        exact ⟨⟨n0, n1, n2, n3⟩, by simpa [Go.Deep.add_add] using j0, by simpa using j1, by simpa using j2, by simpa using j3⟩
    obtain ⟨f, hf⟩ := choose_below each
    exact ⟨f, .inr ⟨x, rfl, hl, hm, hf⟩⟩
end Go.Proofs.Ythhnlkbnphiaoaa

/- The reference's Val, State and Holds, where each clause holds. -/
import Derived.Test.YtlipnnibagidiaaGreatRdF
import Derived.Test.YtlipnnibagidiaaGreatNbA
import Derived.Test.YtlipnnibagidiaaGreatRows
import Derived.WalkKit
import Derived.ProofKit
import Derived.OpenShut
import Derived.ShutString
import Derived.ChangeOld
import Derived.Below
import Derived.ChangeSlices
import Derived.Deep.Grids
import Derived.Test.YtlipnnibagidiaaGreatNuB
import Derived.Test.YtlipnnibagidiaaGreatShP
import Derived.Test.YtlipnnibagidiaaGreatEuC
import Derived.Deep.Fields
import Derived.Laws.IdiomArrays
import Derived.Test.YtlipnnibagidiaaGreatEuA
namespace Go.Proofs.YtlipnnibagidiaaGreat
open Go.RowKit Go.Lib

/-- A row of small ints. -/
structure Row8 (w : World) (A : Option Addr) (zs : List Int) : Prop where
  len : zs.length ≤ 100000
  at_ : zs.length = 0 ∨ ∃ b off, A = some ⟨b, off, none⟩ ∧ b < w.heap.size ∧ ∀ i (h : i < zs.length), w.cell? ⟨b, off + i, none⟩ = some (.int .i8 zs[i])
/-- A literal's value. -/
def valM (vals : List Int) (lit : Int) : Int :=
  if lit < 0 then 0 else match vals[(lit / 2).toNat]? with
    | none => 0
    | some v => if v = 1 then (if lit % 2 = 0 then 1 else 2) else if v = 2 then (if lit % 2 = 0 then 2 else 1) else 0
theorem val15_ok {w : World} {A : Option Addr} {vals : List Int} (cap : Nat) (hv : Row8 w A vals) (lit : Int) (hl : lit ≤ 9223372036854775807) :
    Calls Tryz.prog 109 #[.slice A vals.length cap, .int .i64 lit] w fun e w' => e = .returned (.int .i8 (valM vals lit)) ∧ w = w' := by
  have hlen := hv.len
  by_cases h0 : lit < 0
  · have d0 : decide (lit < 0) = true := decide_eq_true h0
    have e : valM vals lit = 0 := by unfold valM; rw [if_pos h0]
    rw [e]
    clear e hv hlen
    go_enter Tryz.func109, Tryz.ntmps109
    go_wp2
    go_ret
    exact ⟨rfl, rfl⟩
  have d0 : decide (lit < 0) = false := decide_eq_false h0
  obtain ⟨q, hq⟩ : ∃ q : Nat, lit / 2 = q := ⟨(lit / 2).toNat, by omega⟩
  have e1 : valM vals lit = match vals[q]? with
    | none => 0
    | some v => if v = 1 then (if lit % 2 = 0 then 1 else 2) else if v = 2 then (if lit % 2 = 0 then 2 else 1) else 0 := by
    unfold valM
    rw [if_neg h0, hq]
    rfl
  rw [e1]
  clear e1
  by_cases h1 : q < vals.length
  · have d1 : decide ((vals.length : Int) ≤ (q : Int)) = false := decide_eq_false (by omega)
    rw [List.getElem?_eq_getElem h1]
    rcases hv.at_ with h2 | ⟨b, off, rfl, hb, hc⟩
    · omega
    have c0 := hc q h1
    have hand : bits .and .i64 lit 1 = lit % 2 := i64_and_one lit (by omega) (by omega)
    generalize hvq : vals[q] = v at *
    have t1 : (q : Int) < (vals.length : Int) := by omega
    have t2 : (0 : Int) ≤ (q : Int) := by omega
    clear hc hv hvq h0
    by_cases hv1 : v = 1
    · subst hv1
      simp only [if_true]
      by_cases hp : lit % 2 = 0
      · rw [hp] at hand
        rw [if_pos hp]
        clear hp
        go_enter Tryz.func109, Tryz.ntmps109
        go_wp2
        go_ret
        exact ⟨rfl, rfl⟩
      · have hp1 : lit % 2 = 1 := by omega
        rw [hp1] at hand
        rw [if_neg hp]
        clear hp hp1
        go_enter Tryz.func109, Tryz.ntmps109
        go_wp2
        go_ret
        exact ⟨rfl, rfl⟩
    · by_cases hv2 : v = 2
      · subst hv2
        simp only [if_true, if_neg hv1]
        by_cases hp : lit % 2 = 0
        · rw [hp] at hand
          rw [if_pos hp]
          clear hp hv1
          go_enter Tryz.func109, Tryz.ntmps109
          go_wp2
          go_ret
          exact ⟨rfl, rfl⟩
        · have hp1 : lit % 2 = 1 := by omega
          rw [hp1] at hand
          rw [if_neg hp]
          clear hp hp1 hv1
          go_enter Tryz.func109, Tryz.ntmps109
          go_wp2
          go_ret
          exact ⟨rfl, rfl⟩
      · have b1 : (v != 1) = true := by simpa using hv1
        have b2 : (v != 2) = true := by simpa using hv2
        simp only [if_neg hv1, if_neg hv2]
        clear hv1 hv2 hand
        go_enter Tryz.func109, Tryz.ntmps109
        go_wp2
        go_ret
        exact ⟨rfl, rfl⟩
  · have d1 : decide ((vals.length : Int) ≤ (q : Int)) = true := decide_eq_true (by omega)
    have d2 : vals.length ≤ q := by omega
    rw [List.getElem?_eq_none (by omega)]
    clear hv h1
    go_enter Tryz.func109, Tryz.ntmps109
    go_wp2
    go_ret
    exact ⟨rfl, rfl⟩


set_option maxHeartbeats 1000000 in
theorem state15t_ok {w : World} {A B : Option Addr} {c vals : List Int} (cap cap2 : Nat) (hc : Row w A c) (hv : Row8 w B vals) (hm : ∀ x ∈ c, x ≤ 9223372036854775807) (ht : ∃ x ∈ c, valM vals x = 1) :
    Calls Tryz.prog 67 #[.slice A c.length cap, .slice B vals.length cap2] w fun e w' => e = .returned (.tuple #[.int .i8 0, .int .i64 (-1)]) ∧ w = w' := by
  have hlen := hc.len
  have Hc := Lib.hid hc
  have Hv := Lib.hid hv
  have Hm := Lib.hid hm
  have Ht := Lib.hid ht
  clear hc hv hm ht
  go_enter Tryz.func67, Tryz.ntmps67
  go_wp2
  go_loopg [8, 6, 7] c.length (fun g v vo vl wx => w = wx ∧ ∃ (i o : Nat) (l : Int), i + g = c.length ∧ o ≤ i ∧ v = .int .i64 i ∧ vo = .int .i64 o ∧ vl = .int .i64 l ∧ ∃ x ∈ c.drop i, valM vals x = 1)
  case atStart => exact ⟨rfl, 0, 0, -1, by omega, by omega, rfl, rfl, rfl, Ht.out⟩
  case round =>
    obtain ⟨rfl, i, o, l, hig, hoi, rfl, rfl, rfl, hinv⟩ := hrel
    have HI := Lib.hid hinv
    cases gk with
    | zero =>
      obtain ⟨x, hx, _⟩ := hinv
      rw [List.drop_eq_nil_of_le (by omega)] at hx
      cases hx
    | succ g =>
      have hin : i < c.length := by omega
      have d1 : decide ((i : Int) < c.length) = true := by simp; omega
      obtain ⟨b, off, hA, hb, hcell⟩ := Hc.out.at_.resolve_left (by omega)
      subst hA
      have c0 := hcell i hin
      have hdr : c.drop i = c[i] :: c.drop (i + 1) := List.drop_eq_getElem_cons hin
      have hx := Hm.out c[i] (List.getElem_mem hin)
      have Hdr := Lib.hid hdr
      have t1 : (0 : Int) ≤ (i : Int) := by omega
      have t2 : (i : Int) < (c.length : Int) := by omega
      clear hcell hdr hinv
      generalize c[i] = x at *
      generalize hv : valM vals x = v
      have HV := Lib.hid hv
      have HNext : Hid (v ≠ 1 → ∃ x ∈ c.drop (i + 1), valM vals x = 1) := Lib.hid (fun hn => by
        obtain ⟨y, hy, hy1⟩ := HI.out
        rw [Hdr.out] at hy
        rcases List.mem_cons.1 hy with rfl | hy
        · exact absurd (hv.symm.trans hy1) hn
        · exact ⟨y, hy, hy1⟩)
      clear hv
      by_cases h1 : v = 1
      · subst h1
        go_wp2_with (go_at_call 109; refine (val15_ok cap2 Hv.out x hx).mono ?_; rintro e w1 ⟨rfl, rfl⟩; rw [HV.out])
        go_ret2
        exact ⟨rfl, rfl⟩
      have b1 : (v == 1) = false := beq_eq_false_iff_ne.2 h1
      have HN := Lib.hid (HNext.out h1)
      by_cases h2 : v = 0
      · subst h2
        go_wp2_with (go_at_call 109; refine (val15_ok cap2 Hv.out x hx).mono ?_; rintro e w1 ⟨rfl, rfl⟩; rw [HV.out])
        go_roundg g
        case measure => omega
        case rel => exact ⟨rfl, i + 1, o + 1, x, by omega, by omega, by go_num, by go_num, rfl, HN.out⟩
      have b2 : (v == 0) = false := beq_eq_false_iff_ne.2 h2
      go_wp2_with (go_at_call 109; refine (val15_ok cap2 Hv.out x hx).mono ?_; rintro e w1 ⟨rfl, rfl⟩; rw [HV.out])
      go_roundg g
      case measure => omega
      case rel => exact ⟨rfl, i + 1, o, l, by omega, by omega, by go_num, rfl, rfl, HN.out⟩

set_option maxHeartbeats 1000000 in
theorem holds15t_ok {w : World} {B : Option Addr} {v : Value} {N : Nat → Prop} {rows : List (Option Addr × Nat × List Int)} {vals : List Int} (cap2 : Nat) (h : GridV N w v rows) (hv : Row8 w B vals) (hm : ∀ r ∈ rows, ∀ x ∈ r.2.2, x ≤ 9223372036854775807) (ht : ∀ r ∈ rows, ∃ x ∈ r.2.2, valM vals x = 1) :
    Calls Tryz.prog 33 #[v, .slice B vals.length cap2] w fun e w' => e = .returned (.bool true) ∧ w = w' := by
  have hlen := h.len
  obtain ⟨A, cap, rfl, _, _, hat⟩ := h.form
  have HAt := Lib.hid hat
  have HR := Lib.hid h.rows
  have Hm := Lib.hid hm
  have Hv := Lib.hid hv
  have Ht := Lib.hid ht
  clear h hm hv ht hat
  go_enter Tryz.func33, Tryz.ntmps33
  go_wp2
  go_loopg [5] rows.length (fun g v wx => w = wx ∧ ∃ i : Nat, i + g = rows.length ∧ v = .int .i64 i)
  case atStart => exact ⟨rfl, 0, by omega, rfl⟩
  case round =>
    obtain ⟨rfl, i, hig, rfl⟩ := hrel
    cases gk with
    | zero =>
      have d1 : decide ((i : Int) < rows.length) = false := by simp; omega
      go_wp2
      go_ret
      exact ⟨rfl, rfl⟩
    | succ k =>
      have hin : i < rows.length := by omega
      have d1 : decide ((i : Int) < rows.length) = true := by simp; omega
      obtain ⟨b, off, hA, _, hb, hcell⟩ := HAt.out.resolve_left (by omega)
      subst hA
      have c0 := hcell i hin
      have hmem : rows[i] ∈ rows := List.getElem_mem hin
      obtain ⟨hrow, _, _⟩ := HR.out rows[i] hmem
      have hx := Hm.out rows[i] hmem
      have hy := Ht.out rows[i] hmem
      have t1 : (0 : Int) ≤ (i : Int) := by omega
      have t2 : (i : Int) < (rows.length : Int) := by omega
      unfold encR at c0
      clear hcell hmem
      generalize rows[i].1 = xa at *
      generalize rows[i].2.1 = xc at *
      generalize rows[i].2.2 = c at *
      have K := state15t_ok xc cap2 hrow.row Hv.out hx hy
      clear hx hrow hy
      go_wp2_with (go_at_call 67; (with_reducible refine K.mono ?_); rintro e w1 ⟨rfl, rfl⟩)
      go_roundg k
      case measure => omega
      case rel => exact ⟨rfl, i + 1, by omega, by go_num⟩
end Go.Proofs.YtlipnnibagidiaaGreat

/- Cells of small ints; the assignment that numbers make, node by node. -/
namespace Go.Proofs.YtlipnnibagidiaaGreat
open Go.RowKit Go.Lib

def i8Cells (n : Nat) (F : Nat → Int) : Array Value := ((List.range n).map fun i => Value.int .i8 (F i)).toArray
def updI (F : Nat → Int) (k : Nat) (b : Int) (i : Nat) : Int := if i = k then b else F i
theorem i8Cells_get {n : Nat} {F : Nat → Int} {i : Nat} (h : i < n) : (i8Cells n F)[i]? = some (.int .i8 (F i)) := by
  unfold i8Cells
  rw [List.getElem?_toArray, List.getElem?_map, List.getElem?_range h]
  rfl
theorem i8Cells_set {n : Nat} {F : Nat → Int} {k : Nat} (b : Int) : (i8Cells n F).setIfInBounds k (.int .i8 b) = i8Cells n (updI F k b) := by
  apply Array.ext'
  unfold i8Cells
  rw [Array.toList_setIfInBounds]
  apply List.ext_getElem?
  intro i
  rw [List.getElem?_set]
  simp only [List.getElem?_map, List.length_map, List.length_range]
  by_cases hi : i < n
  · rw [List.getElem?_range hi]
    by_cases hk : k = i
    · subst hk
      simp [updI, hi]
    · rw [if_neg hk]
      simp [updI, show ¬ i = k from fun e => hk e.symm]
  · rw [List.getElem?_eq_none (by simpa using hi)]
    by_cases hk : k = i
    · subst hk
      simp [hi]
    · rw [if_neg hk]
      rfl
theorem i8Cells_made (n : Nat) : madeCells #[Value.int .i8 0] n = i8Cells n (fun _ => 0) := by
  rw [made_one]
  unfold i8Cells
  congr 1
  apply List.ext_getElem?
  intro i
  rw [List.getElem?_map]
  by_cases hi : i < n
  · rw [List.getElem?_range hi, List.getElem?_replicate, if_pos hi]
    rfl
  · rw [List.getElem?_eq_none (by simpa using hi), List.getElem?_eq_none (by simpa using hi)]
    rfl
theorem int8_info : (Tryz.prog.info? 44).map (fun i => (i.zero, i.size, i.bytes)) = some (some (.int .i8 0), 1, 1) := by kernel_rfl
/-- The row that the cells are. -/
theorem i8_row {w : World} {b n : Nat} {F : Nat → Int} (h : Blk w b 44 (i8Cells n F)) (hn : n ≤ 100000) : Row8 w (some ⟨b, 0, none⟩) ((List.range n).map F) := by
  refine ⟨by simpa using hn, .inr ⟨b, 0, rfl, h.lt, fun i hi => ?_⟩⟩
  have hi' : i < n := by simpa using hi
  rw [Nat.zero_add, h.cell, i8Cells_get hi']
  simp
/-- A literal that an assignment makes true. -/
theorem valM_on {n : Nat} {a : Int → Int} {x : Int} (h0 : 0 ≤ x) (h1 : x / 2 < n) (h : litOn a x) : valM ((List.range n).map fun i : Nat => a (i : Int)) x = 1 := by
  unfold litOn at h
  unfold valM
  rw [if_neg (by omega), List.getElem?_map, List.getElem?_range (by omega)]
  have e0 : a (((x / 2).toNat : Nat) : Int) = 1 + x % 2 := by rw [show (((x / 2).toNat : Nat) : Int) = x / 2 by omega]; exact h
  show (if a (((x / 2).toNat : Nat) : Int) = 1 then _ else if a (((x / 2).toNat : Nat) : Int) = 2 then _ else _) = (1 : Int)
  rw [e0]
  rcases (show x % 2 = 0 ∨ x % 2 = 1 by omega) with e | e
  · rw [e]
    rfl
  · rw [e]
    rfl
/-- The literals of all clauses name nodes of the table. -/
theorem litT_range {T : List Nd} {n : Nd} (h : n ∈ T) : 0 ≤ litT T n ∧ litT T n / 2 < T.length ∧ 0 ≤ litT T n + 1 ∧ (litT T n + 1) / 2 < T.length := by
  have := List.idxOf_lt_length_iff.2 h
  unfold litT
  omega
theorem of2_range {T : List Nd} {x y : Int} {l : List (List Int)} (h : of2 T x y = some l) : ∀ c ∈ l, ∀ z ∈ c, 0 ≤ z ∧ z / 2 < T.length := by
  unfold of2 at h
  split at h
  rotate_left
  · cases h
  rename_i h1
  split at h
  rotate_left
  · cases h
  have r1 := litT_range h1
  split at h
  · injection h with h
    subst h
    intro c hc z hz
    obtain rfl := List.mem_singleton.1 hc
    obtain rfl := List.mem_singleton.1 hz
    omega
  · split at h
    rotate_left
    · cases h
    rename_i h2
    have r2 := litT_range h2.1
    have r3 := litT_range h2.2
    injection h with h
    subst h
    intro c hc z hz
    simp only [List.mem_cons, List.not_mem_nil, or_false] at hc
    rcases hc with rfl | rfl | rfl <;>
    · obtain ⟨hz, _⟩ := (mem_make _ _).1 hz
      simp only [List.mem_cons, List.not_mem_nil, or_false] at hz
      omega
theorem all_range {T : List Nd} : ∀ c ∈ allT T, ∀ z ∈ c, 0 ≤ z ∧ z / 2 < T.length := by
  intro c hc z hz
  unfold allT at hc
  obtain ⟨p, _, hc⟩ := List.mem_flatMap.1 hc
  cases h : of2 T p.1 p.2 with
  | none => rw [h] at hc; cases hc
  | some l =>
    rw [h] at hc
    exact of2_range h c hc z hz
/-- The clauses hold, as the reference's Holds is asked. -/
theorem all_vals {T : List Nd} {a : Int → Int} (h : ∀ c ∈ allT T, ∃ x ∈ c, litOn a x) : ∀ c ∈ allT T, ∃ x ∈ c, valM ((List.range T.length).map fun i : Nat => a (i : Int)) x = 1 := fun c hc => by
  obtain ⟨x, hx, hl⟩ := h c hc
  obtain ⟨h0, h1⟩ := all_range c hc x hx
  exact ⟨x, hx, valM_on h0 h1 hl⟩
/-- A base's offset is no greater than the node's number. -/
theorem base_small {T : List Nd} {a : Int} {m : Int} (h0 : 0 ≤ m) (h : -m ≤ (ndAt T a).num ∧ (ndAt T a).num ≤ m) : -m ≤ (baseT T a).2 ∧ (baseT T a).2 ≤ m := by
  unfold baseT
  split
  · exact h
  · split
    · exact h
    · show -m ≤ 0 ∧ 0 ≤ m
      omega
theorem own_shd {T : List Nd} {a : Int} (h0 : 0 ≤ a) (h1 : a < T.length) (h : ownB T a = true) : Shd T a := by
  unfold ownB at h
  simp only [Bool.and_eq_true, decide_eq_true_eq] at h
  exact ⟨h0, h1, h.2⟩
/-- What a core table's differences and equalities of Ints are of. -/
theorem core_args {T : List Nd} (h : CoreT T) {i : Nat} (hi : i < T.length) : ((ndAt T i).op = 12 → Shd T (ndAt T i).a0 ∧ Shd T (ndAt T i).a1 ∧ (ndAt T i).a0 < i ∧ (ndAt T i).a1 < i) ∧ ((ndAt T i).op = 6 → (ndAt T (ndAt T i).a0).sort = 1 → Shd T (ndAt T i).a0 ∧ Shd T (ndAt T i).a1 ∧ (ndAt T i).a0 < i ∧ (ndAt T i).a1 < i) := by
  have hm : ndAt T (i : Nat) ∈ T := ndAt_mem (by omega) (by omega)
  have hst := h.ok.st i (ndAt T i) (by rw [ndAt_nat hi]; exact List.getElem?_eq_getElem hi)
  have hf := h.fit _ hm
  generalize ndAt T (i : Nat) = n at *
  refine ⟨fun ho => ?_, fun ho hs => ?_⟩
  · obtain ⟨h1, h2⟩ := hst.two (.inr (.inl ho))
    unfold fitB at hf
    simp [ho] at hf
    exact ⟨own_shd h1.1 (by omega) hf.1.2, own_shd h2.1 (by omega) hf.2, h1.2, h2.2⟩
  · obtain ⟨h1, h2⟩ := hst.two (.inl ho)
    unfold fitB at hf
    simp [ho, hs] at hf
    exact ⟨⟨h1.1, by omega, hs⟩, ⟨h2.1, by omega, hf.2⟩, h1.2, h2.2⟩
theorem numV_small {T : List Nd} {L : List Int} (hb : ∀ x ∈ L, -1048576 ≤ x ∧ x ≤ 1048576) {a : Int} (h : -1099511627776 ≤ (baseT T a).2 ∧ (baseT T a).2 ≤ 1099511627776) : -1099512676352 ≤ numV (numF L) T a ∧ numV (numF L) T a ≤ 1099512676352 := by
  have := numF_le hb (baseT T a).1
  unfold numV
  split <;> omega
/-- While the assignment is made. -/
structure NI (w : World) (pO ab : Nat) (A2 : Option Addr) (U : List Nd) (c2 : Nat) (L : List Int) (i : Nat) (F : Nat → Int) (W : World) : Prop where
  t : Blk W pO 33 #[.slice A2 U.length c2]
  a : Blk W ab 44 (i8Cells U.length F)
  bel : Below w.heap.size w W
  tab : Tab W A2 U
  asg : ∀ k : Nat, k < i → F k = asgN (numF L) U k
  sml : ∀ k : Nat, k < i → -1099511627776 ≤ (ndAt U k).num ∧ (ndAt U k).num ≤ 1099511627776
  low : w.heap.size ≤ pO ∧ pO < ab ∧ ∀ b, A2 = some b → 0 < U.length → b.block < ab
section
variable {w W W2 : World} {pO ab : Nat} {A2 : Option Addr} {U : List Nd} {c2 : Nat} {L : List Int} {i : Nat} {F : Nat → Int}
theorem NI.below (h : NI w pO ab A2 U c2 L i F W) (hb : Below W.heap.size W W2) : NI w pO ab A2 U c2 L i F W2 :=
  ⟨h.t.below hb h.t.lt, h.a.below hb h.a.lt, h.bel.trans (hb.mono h.bel.size), h.tab.below hb, h.asg, h.sml, h.low⟩
theorem NI.set (h : NI w pO ab A2 U c2 L i F W) (x : Int) : NI w pO ab A2 U c2 L i (updI F i x) (W.setCell ⟨ab, i, none⟩ (.int .i8 x)) := by
  have hk := Kept.set1 W ab i (.int .i8 x)
  have ha := h.a.set_ i (.int .i8 x)
  rw [i8Cells_set] at ha
  have hl := h.low
  have hlt := h.a.lt
  refine ⟨h.t.kept hk (by omega), ha, h.bel.setCell (by show w.heap.size ≤ ab; omega) _, ?_, fun k hk => ?_, h.sml, h.low⟩
  · rcases h.tab.at_ with h0 | ⟨b, off, h1, h2, h3⟩
    · exact ⟨h.tab.len, .inl h0⟩
    · rcases Nat.eq_zero_or_pos U.length with h0 | h0
      · exact ⟨h.tab.len, .inl h0⟩
      · have := hl.2.2 _ h1 h0
        exact h.tab.kept1 hk fun b' e => by rw [h1] at e; injection e with e; rw [← e]; exact Nat.ne_of_lt this
  · unfold updI
    rw [if_neg (by omega)]
    exact h.asg k hk
theorem NI.step (h : NI w pO ab A2 U c2 L i F W) (h1 : F i = asgN (numF L) U i) (h2 : -1099511627776 ≤ (ndAt U i).num ∧ (ndAt U i).num ≤ 1099511627776) : NI w pO ab A2 U c2 L (i + 1) F W := by
  refine ⟨h.t, h.a, h.bel, h.tab, fun k hk => ?_, fun k hk => ?_, h.low⟩
  · by_cases e : k = i
    · subst e; exact h1
    · exact h.asg k (by omega)
  · by_cases e : k = i
    · subst e; exact h2
    · exact h.sml k (by omega)
theorem NI.cell (h : NI w pO ab A2 U c2 L i F W) (hi : i < U.length) : W.cell? ⟨ab, i, none⟩ = some (.int .i8 (F i)) ∧ W.frozen? ⟨ab, i, none⟩ = false := ⟨by rw [h.a.cell, i8Cells_get hi], h.a.frozen i⟩
theorem NI.small (h : NI w pO ab A2 U c2 L i F W) {a : Int} (h0 : 0 ≤ a) (h1 : a < i) : -1099511627776 ≤ (baseT U a).2 ∧ (baseT U a).2 ≤ 1099511627776 := by
  have := h.sml a.toNat (by omega)
  rw [show ((a.toNat : Nat) : Int) = a by omega] at this
  exact base_small (by decide) this
end
theorem NI.srt {w W : World} {pO ab tb toff : Nat} {U : List Nd} {c2 : Nat} {L : List Int} {i : Nat} {F : Nat → Int} (h : NI w pO ab (some ⟨tb, toff, none⟩) U c2 L i F W) {k : Nat} (hk : k < U.length) : W.cell? ⟨tb, toff + k * 8 + 5, none⟩ = some (.int .i64 (ndAt U k).sort) := by
  obtain ⟨b, off, e, _, hc⟩ := h.tab.at_.resolve_left (by omega)
  injection e with e
  injection e with e1 e2
  subst e1 e2
  rw [ndAt_nat hk]
  exact (hc k hk).all.2.2.2.2.2.1
theorem updI_at (F : Nat → Int) (i : Nat) (x : Int) : updI F i x i = x := by unfold updI; rw [if_pos rfl]
end Go.Proofs.YtlipnnibagidiaaGreat

/- Readings of arguments, opened. -/
namespace Go.Proofs.YtlipnnibagidiaaGreat
open Go.ChangeShapes Go.WideShapes Go.ChangeAt Go.RowKit

/-- What a walk is told of a slice of integers that came in: it is nil; or it leads to a row of 'cap' cells, the numbers 'zs' (the first 'len' are its elements, the rest its spare room), each fitting its kind. -/
def IsRow (k : IntKind) (w : World) (a : Option Addr) (len cap : Nat) (zs : List Int) : Prop :=
  (a = none ∧ len = 0 ∧ cap = 0 ∧ zs = []) ∨
  ∃ x, a = some x ∧ len ≤ cap ∧ cap ≤ maxLen ∧ zs.length = cap ∧ (∀ i, i < zs.length → w.cell? (x.add i) = some (.int k (zs.getD i 0))) ∧ ∀ n ∈ zs, (Lit.int k n).wf = true

theorem isRow_of {H : Type} {enc : TypeId × Value → H} {P : Program} {W : World} {b : Nat} {hd : Bool} {t e : TypeId} {k : IntKind} {a : Option Addr} {len cap : Nat} {d : DataW H} {p : List MemPlace}
    (ht : P.underlying t = some (.slice e)) (he : P.underlying e = some (.int k)) (hc : P.cellsOf e = 1) (h : DataW.Trod enc P W b (fun _ => true) hd t (.slice a len cap) d p) : ∃ zs, IsRow k W a len cap zs := by
  obtain ⟨fuel, hf⟩ := h
  rcases open_ints ht he hc hf with ⟨hcs, _⟩ | ⟨x, l, c, zs, hcs, _, hl, hm, hz, _, hcell, hwz⟩
  · simp [Value.cells] at hcs
    obtain ⟨rfl, rfl, rfl⟩ := hcs
    exact ⟨[], .inl ⟨rfl, rfl, rfl, rfl⟩⟩
  · simp [Value.cells] at hcs
    obtain ⟨rfl, rfl, rfl⟩ := hcs
    exact ⟨zs, .inr ⟨_, rfl, hl, hm, by simpa using hz, hcell, hwz⟩⟩
/-- A slice of bools that came in. -/
def IsBools (w : World) (a : Option Addr) (len cap : Nat) (B : Nat → Bool) : Prop :=
  (a = none ∧ len = 0 ∧ cap = 0) ∨ ∃ x, a = some x ∧ len ≤ cap ∧ cap ≤ maxLen ∧ ∀ i, i < cap → w.cell? (x.add i) = some (.bool (B i))

theorem isBools_of {H : Type} {enc : TypeId × Value → H} {P : Program} {W : World} {b : Nat} {hd : Bool} {t e : TypeId} {a : Option Addr} {len cap : Nat} {d : DataW H} {p : List MemPlace}
    (ht : P.underlying t = some (.slice e)) (he : P.underlying e = some .bool) (hc : P.cellsOf e = 1) (h : DataW.Trod enc P W b (fun _ => true) hd t (.slice a len cap) d p) : ∃ B, IsBools W a len cap B := by
  obtain ⟨fuel, hf⟩ := h
  rcases Go.Deep.open_bools ht he hc hf with ⟨hcs, _⟩ | ⟨x, l, c, B, hcs, _, hl, hm, _, hcell⟩
  · simp [Value.cells] at hcs
    obtain ⟨rfl, rfl, rfl⟩ := hcs
    exact ⟨fun _ => false, .inl ⟨rfl, rfl, rfl⟩⟩
  · simp [Value.cells] at hcs
    obtain ⟨rfl, rfl, rfl⟩ := hcs
    exact ⟨B, .inr ⟨_, rfl, hl, hm, hcell⟩⟩
end Go.Proofs.YtlipnnibagidiaaGreat

/- A row of ints that came in. -/
namespace Go.Proofs.YtlipnnibagidiaaGreat
open Go.RowKit Go.ChangeShapes Go.WideShapes Go.ChangeAt

/-- A row of ints that came in. -/
theorem isRow_row {w : World} {a : Option Addr} {len cap : Nat} {z : List Int} (h : IsRow .i64 w a len cap z) (hl : len ≤ 100000) : ∃ L, L.length = len ∧ Row w a L ∧ (a = none → cap = 0) ∧ len ≤ cap ∧ L = z.take len := by
  rcases h with ⟨rfl, rfl, rfl, rfl⟩ | ⟨x, rfl, hc, _, hz, hcell, _⟩
  · exact ⟨[], rfl, ⟨by simp, .inl rfl⟩, fun _ => rfl, Nat.le_refl _, rfl⟩
  · have hlen : (z.take len).length = len := by rw [List.length_take]; omega
    refine ⟨z.take len, hlen, ⟨by omega, ?_⟩, fun e => (by cases e), hc, rfl⟩
    rcases Nat.eq_zero_or_pos len with h0 | h0
    · exact .inl (by rw [hlen]; exact h0)
    · have c0 := hcell 0 (by omega)
      rw [show x.add 0 = x by obtain ⟨b, off, sp⟩ := x; unfold Addr.add; split <;> simp_all] at c0
      have hs : x.spot = none := World.cell?_spot c0
      have hb : x.block < w.heap.size := by
        unfold World.cell? at c0
        cases hh : w.heap[x.block]? with
        | none => simp [hh] at c0
        | some o => exact (Array.getElem?_eq_some_iff.1 hh).1
      obtain ⟨b, off, sp⟩ := x
      obtain rfl : sp = none := hs
      refine .inr ⟨b, off, rfl, hb, fun i hi => ?_⟩
      rw [hlen] at hi
      have h1 := hcell i (by omega)
      rw [show (⟨b, off, none⟩ : Addr).add i = ⟨b, off + i, none⟩ by unfold Addr.add; split <;> simp_all] at h1
      rw [h1, List.getElem_take, List.getD_eq_getElem?_getD, List.getElem?_eq_getElem (by omega)]
      rfl
end Go.Proofs.YtlipnnibagidiaaGreat

/- A table that came in. -/
namespace Go.Proofs.YtlipnnibagidiaaGreat
open Go.RowKit Go.ChangeShapes Go.WideShapes Go.ChangeAt

theorem choose_nd {m : Nat} {p : Nat → Nd → Prop} (h : ∀ i, i < m → ∃ x, p i x) : ∃ f : Nat → Nd, ∀ i, i < m → p i (f i) := by
  refine ⟨fun i => if hi : i < m then (h i hi).choose else default, fun i hi => ?_⟩
  simp only [hi, dif_pos]
  exact (h i hi).choose_spec
/-- The nodes of a slice that came in. -/
def IsNodes (w : World) (a : Option Addr) (len cap : Nat) (f : Nat → Nd) : Prop :=
  (a = none ∧ len = 0) ∨ ∃ x, a = some x ∧ len ≤ cap ∧ cap ≤ maxLen ∧ ∀ i, i < cap → (∀ j, j < 8 → w.cell? ((x.add (i * 8)).add j) = (nodeCells (f i))[j]?) ∧ NdWf (f i)
theorem isNodes_of {H : Type} {enc : TypeId × Value → H} {P : Program} {W : World} {b : Nat} {hd : Bool} {t e ea : TypeId} {f0 f1 f2 f3 f4 f5 : Field} {a : Option Addr} {len cap : Nat} {d : DataW H} {p : List MemPlace}
    (ht : P.underlying t = some (.slice e)) (he : P.underlying e = some (.struct #[f0, f1, f2, f3, f4, f5])) (hc : P.cellsOf e = 8)
    (ho : f0.offset = 0 ∧ f1.offset = 1 ∧ f2.offset = 2 ∧ f3.offset = 5 ∧ f4.offset = 6 ∧ f5.offset = 7)
    (hn : P.cellsOf f0.type = 1 ∧ P.cellsOf f1.type = 1 ∧ P.cellsOf f2.type = 3 ∧ P.cellsOf f3.type = 1 ∧ P.cellsOf f4.type = 1 ∧ P.cellsOf f5.type = 1)
    (g0 : P.underlying f0.type = some (.int .i8)) (g1 : P.underlying f1.type = some (.int .i8)) (g2 : P.underlying f2.type = some (.array 3 ea)) (ga : P.underlying ea = some (.int .i64)) (ca : P.cellsOf ea = 1)
    (g3 : P.underlying f3.type = some (.int .i64)) (g4 : P.underlying f4.type = some (.int .i64)) (g5 : P.underlying f5.type = some (.int .i64))
    (h : DataW.Trod enc P W b (fun _ => true) hd t (.slice a len cap) d p) : ∃ f, IsNodes W a len cap f := by
  obtain ⟨fuel, hf⟩ := h
  rcases Go.Deep.open_slice ht hf with ⟨hcs, _⟩ | ⟨x, l, c, m, n, D, Pl, hcs, _, hl, hm, hmm, _, hx⟩
  · simp [Value.cells] at hcs
    obtain ⟨rfl, rfl, rfl⟩ := hcs
    exact ⟨fun _ => default, .inl ⟨rfl, rfl⟩⟩
  · simp [Value.cells] at hcs
    obtain ⟨rfl, rfl, rfl⟩ := hcs
    obtain rfl : m = cap := by simpa using hmm
    have each : ∀ i, i < m → ∃ q : Nd, (∀ j, j < 8 → W.cell? ((x.add (i * 8)).add j) = (nodeCells q)[j]?) ∧ NdWf q := by
      intro i hi
      obtain ⟨cs', h1, h2⟩ := hx i hi
      rw [hc] at h1
      obtain ⟨_, hlen, hcell⟩ := World.cells?_some h1
      obtain ⟨xs, k, _, _, _, hxl, hfd⟩ := DataW.trod_struct he h2
      match xs, hxl, cs', hlen with
      | [y0, y1, y2, y3, y4, y5], _, [v0, v1, v2, v3, v4, v5, v6, v7], _ =>
        have k0 := hfd 0 f0 rfl
        have k1 := hfd 1 f1 rfl
        have k2 := hfd 2 f2 rfl
        have k3 := hfd 3 f3 rfl
        have k4 := hfd 4 f4 rfl
        have k5 := hfd 5 f5 rfl
        simp [ho.1, ho.2.1, ho.2.2.1, ho.2.2.2.1, ho.2.2.2.2.1, ho.2.2.2.2.2, hn.1, hn.2.1, hn.2.2.1, hn.2.2.2.1, hn.2.2.2.2.1, hn.2.2.2.2.2] at k0 k1 k2 k3 k4 k5
        obtain ⟨n0, e0, _, r0⟩ := DataW.trod_int g0 k0
        obtain ⟨n1, e1, _, r1⟩ := DataW.trod_int g1 k1
        obtain ⟨z0, z1, z2, _, _, l0, l1, l2⟩ := trod_array3 g2 ca k2
        obtain ⟨m0, d0, _, s0⟩ := DataW.trod_int ga l0
        obtain ⟨m1, d1, _, s1⟩ := DataW.trod_int ga l1
        obtain ⟨m2, d2, _, s2⟩ := DataW.trod_int ga l2
        obtain ⟨n3, e3, _, r3⟩ := DataW.trod_int g3 k3
        obtain ⟨n4, e4, _, r4⟩ := DataW.trod_int g4 k4
        obtain ⟨n5, e5, _, r5⟩ := DataW.trod_int g5 k5
        injection e0 with e0
        injection e1 with e1
        injection d0 with d0
        injection d1 with d1
        injection d2 with d2
        injection e3 with e3
        injection e4 with e4
        injection e5 with e5
        subst e0 e1 d0 d1 d2 e3 e4 e5
        have q8 : IntKind.i8.min = -128 := by decide
        have p8 : IntKind.i8.max = 127 := by decide
        have q64 : IntKind.i64.min = -9223372036854775808 := by decide
        simp [Lit.wf, q8, p8, q64] at r0 r1 s0 s1 s2 r3 r4 r5
        refine ⟨⟨n0, n1, m0, m1, m2, n3, n4, n5⟩, fun j hj => ?_, ⟨?_, ?_, fun j => ?_, ?_, ?_, ?_⟩⟩
        · exact hcell j hj
        · exact r0
        · exact r1
        · unfold Nd.arg
          repeat' split
          all_goals first
            | exact s0
            | exact s1
            | exact s2
            | (constructor <;> decide)
        · exact r3
        · exact r4
        · exact r5
    obtain ⟨f, hf⟩ := choose_nd each
    exact ⟨f, .inr ⟨x, rfl, hl, hm, hf⟩⟩
/-- .. as a table. -/
theorem IsNodes.tab {w : World} {a : Option Addr} {len cap : Nat} {f : Nat → Nd} (h : IsNodes w a len cap f) (hl : len ≤ 100000) : Tab w a ((List.range len).map f) := by
  refine ⟨by simpa using hl, ?_⟩
  rcases h with ⟨rfl, rfl⟩ | ⟨x, rfl, hc, _, hx⟩
  · exact .inl rfl
  · rcases Nat.eq_zero_or_pos len with rfl | hp
    · exact .inl rfl
    have c0 := (hx 0 (by omega)).1 0 (by omega)
    have c1 : w.cell? x = some (.int .i8 (f 0).op) := by simpa [Addr.add, nodeCells] using c0
    have hs : x.spot = none := World.cell?_spot c1
    have hb : x.block < w.heap.size := by
      unfold World.cell? at c1
      cases hh : w.heap[x.block]? with
      | none => simp [hh] at c1
      | some o => exact (Array.getElem?_eq_some_iff.1 hh).1
    obtain ⟨b, off, sp⟩ := x
    obtain rfl : sp = none := hs
    refine .inr ⟨b, off, rfl, hb, fun i hi => ?_⟩
    have hi' : i < len := by simpa using hi
    obtain ⟨h1, h2⟩ := hx i (by omega)
    simp only [List.getElem_map, List.getElem_range]
    refine ⟨hb, fun j hj => ?_, h2⟩
    rw [← h1 j hj]
    congr 1
    unfold Addr.add
    split <;> split <;> simp_all [Nat.add_assoc]
theorem IsNodes.cap {w : World} {a : Option Addr} {len cap : Nat} {f : Nat → Nd} (h : IsNodes w a len cap f) : len ≤ cap := by
  rcases h with ⟨rfl, rfl⟩ | ⟨x, rfl, hc, _, hx⟩
  · exact Nat.zero_le _
  · exact hc
/-- A table that came in, whole. -/
structure TabIn where
  A : Option Addr
  len : Nat
  cap : Nat
  f : Nat → Nd
def TabIn.val (x : TabIn) : Value := .agg #[.slice x.A x.len x.cap]
def TabIn.Ok (x : TabIn) (W : World) : Prop := IsNodes W x.A x.len x.cap x.f
set_option maxRecDepth 100000 in
theorem table_in {H : Type} {enc : TypeId × Value → H} {W : World} {base : Nat} {v : Value} {d : DataW H} {p : List MemPlace} (hv : Value.okWide Tryz.prog W .any base 33 v)
    (h : DataW.Trod enc Tryz.prog W 0 (fun _ => true) true 33 v d p) (_hl : ∀ x ∈ p, x.block < W.heap.size) : ∃ x : TabIn, v = x.val ∧ x.Ok W := by
  obtain ⟨cs, rfl, hcs⟩ := okWide_struct Tryz.underlying33 hv
  obtain ⟨fuel, hf⟩ := h
  obtain ⟨xs, n, _, _, _, hxl, hfd⟩ := DataW.trod_struct Tryz.underlying33 hf
  have c1 : Tryz.prog.cellsOf 33 = 1 := by kernel_rfl
  have c2 : Tryz.prog.cellsOf 31 = 1 := by kernel_rfl
  rw [c1] at hcs
  obtain ⟨l⟩ := cs
  match l, hcs, xs, hxl with
  | [v0], _, [y0], _ =>
    have k0 := hfd 0 _ rfl
    simp [c2, Value.cells] at k0
    obtain ⟨A, len, cap, rfl⟩ : ∃ A len cap, v0 = .slice A len cap := by
      rcases DataW.trod_slice Tryz.underlying31 k0 with ⟨e2, _⟩ | ⟨a, len, cap, _, _, _, _, e2, _⟩
      · injection e2 with e2
        exact ⟨none, 0, 0, e2⟩
      · injection e2 with e2
        exact ⟨_, _, _, e2⟩
    obtain ⟨f, hf⟩ := isNodes_of (d := y0.1) (p := y0.2) Tryz.underlying31 Tryz.underlying51 (by kernel_rfl) (by decide) (by decide +kernel) Tryz.underlying44 Tryz.underlying44 Tryz.underlying49 Tryz.underlying3 (by kernel_rfl) Tryz.underlying3 Tryz.underlying3 Tryz.underlying3 (show DataW.Trod enc Tryz.prog W 0 (fun _ => true) true 31 (.slice A len cap) y0.1 y0.2 from ⟨n, k0⟩)
    exact ⟨⟨A, len, cap, f⟩, rfl, hf⟩
end Go.Proofs.YtlipnnibagidiaaGreat

/- A quiet walk, operation by operation: an operation that is wanted has one value in every world of the class; one that is passed over has none. -/
namespace Go.Proofs.YtlipnnibagidiaaGreat
open Go.RowKit

theorem wpQuiet_want {P : Program} {ops : Array Oper} {C : World → Prop} {Q : Act → Prop} {a : Act} {o : Oper} {rest : List Oper} (hw : Region.wanted o (yielded ops a.tmps) = true) (v : Value) (h1 : ∀ w, C w → o.quietAt P a C w v) (h2 : wpQuiet P ops C Q rest (a.put o.dst v)) : wpQuiet P ops C Q (o :: rest) a := by
  unfold wpQuiet
  rw [if_pos hw]
  exact ⟨v, h1, h2⟩
theorem wpQuiet_skip {P : Program} {ops : Array Oper} {C : World → Prop} {Q : Act → Prop} {a : Act} {o : Oper} {rest : List Oper} (hw : Region.wanted o (yielded ops a.tmps) = false) (h2 : wpQuiet P ops C Q rest (a.put o.dst undef)) : wpQuiet P ops C Q (o :: rest) a := by
  unfold wpQuiet
  rw [if_neg (by rw [hw]; decide)]
  exact h2
/-- The same behind a structure: whnf does not run ahead through what is passed over. -/
structure QW (P : Program) (ops : Array Oper) (C : World → Prop) (Q : Act → Prop) (rest : List Oper) (a : Act) : Prop where
  out : wpQuiet P ops C Q rest a
theorem qw_want {P : Program} {ops : Array Oper} {C : World → Prop} {Q : Act → Prop} {a : Act} {o : Oper} {rest : List Oper} (hw : Region.wanted o (yielded ops a.tmps) = true) (v : Value) (h1 : ∀ w, C w → o.quietAt P a C w v) (h2 : QW P ops C Q rest (a.put o.dst v)) : QW P ops C Q (o :: rest) a := ⟨wpQuiet_want hw v h1 h2.out⟩
theorem qw_skip {P : Program} {ops : Array Oper} {C : World → Prop} {Q : Act → Prop} {a : Act} {o : Oper} {rest : List Oper} (hw : Region.wanted o (yielded ops a.tmps) = false) (h2 : QW P ops C Q rest (a.put o.dst undef)) : QW P ops C Q (o :: rest) a := ⟨wpQuiet_skip hw h2.out⟩
theorem qw_end {P : Program} {ops : Array Oper} {C : World → Prop} {Q : Act → Prop} {a : Act} (h : Q a) : QW P ops C Q [] a := ⟨h⟩
theorem QW.lit {P : Program} {C : World → Prop} {Q : Act → Prop} {l : List Oper} {a : Act} (h : QW P l.toArray C Q l a) : wpQuiet P l.toArray C Q l.toArray.toList a := h.out
end Go.Proofs.YtlipnnibagidiaaGreat

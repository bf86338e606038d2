/- bare, arguments: what is an argument of an application. -/
import Derived.Test.YtbgbhfmchpdkcaaEuI
namespace Go.Proofs.Ytbgbhfmchpdkcaa
open Go.RowKit

/-- What a node comes to. -/
def BareOf (T : List Nd) (a x : Int) : Prop := Chain T a x ∧ (0 ≤ x ∧ x < T.length) ∧ ∀ n, T[x.toNat]? = some n → n.op ≠ 1
theorem BareOf.one {T : List Nd} {a x y : Int} (h : BareOf T a x) (k : BareOf T a y) : x = y := by
  obtain ⟨h, hx, hxn⟩ := h
  obtain ⟨k, hy, hyn⟩ := k
  clear hx hy
  induction h with
  | refl a =>
    cases k with
    | refl => rfl
    | @step i n _ h1 h2 _ => exact absurd h2 (hxn n (by rw [Int.toNat_natCast]; exact h1))
  | @step i n x h1 h2 h3 ih =>
    generalize he : (i : Int) = z at k
    cases k with
    | refl => subst he; exact absurd h2 (hyn n (by rw [Int.toNat_natCast]; exact h1))
    | @step i' n' _ h1' h2' h3' =>
      obtain rfl : i = i' := by omega
      rw [h1] at h1'
      injection h1' with h1'
      subst h1'
      exact ih hxn h3'

set_option maxRecDepth 100000 in
set_option maxHeartbeats 2000000 in
theorem bare_ok {w : World} {q : Nat} {A : Option Addr} {c : Nat} {T : List Nd} (h : TabP w q A c T) (hT : TabOk T) (a : Int) (ha : 0 ≤ a ∧ a < T.length) :
    Calls Try.prog 66 #[.pointer (some ⟨q, 0, none⟩), .int .i64 a] w fun e w' => (∃ x nb, e = .returned (.tuple #[.int .i64 x, .bool nb]) ∧ BareOf T a x) ∧ w = w' := by
  have hlen := h.tab.len
  have c0 := h.blk.cell 0
  simp only [List.getElem?_toArray, List.getElem?_cons_zero] at c0
  have hq := h.blk.lt
  obtain ⟨b, off, hA, hbb, hcell⟩ := h.tab.at_.resolve_left (by omega)
  subst hA
  have HC := Lib.hid hcell
  have HT := Lib.hid hT
  clear h hcell hT
  go_enter Try.func66, Try.ntmps66
  go_wp2
  go_loopg [1, 6] T.length (fun g v nv wr => wr = w ∧ ∃ i : Nat, ∃ nb, i < g ∧ i < T.length ∧ v = .int .i64 i ∧ nv = .bool nb ∧ ∀ x, BareOf T i x → BareOf T a x)
  case atStart => exact ⟨rfl, a.toNat, false, by omega, by omega, by rw [Int.toNat_of_nonneg ha.1], rfl, fun x hx => by rwa [Int.toNat_of_nonneg ha.1] at hx⟩
  case round =>
    obtain ⟨rfl, i, nb, hig, hlt, rfl, rfl, hinv⟩ := hrel
    have HI := Lib.hid hinv
    have t1 : (0 : Int) ≤ (i : Int) := by omega
    have t2 : (i : Int) < (T.length : Int) := by omega
    obtain ⟨y0, _, y2, _, _, _, _, _⟩ := (HC.out i hlt).all
    have hst := HT.out.st i _ (List.getElem?_eq_getElem hlt)
    have HG := Lib.hid (List.getElem?_eq_getElem hlt)
    have HST := Lib.hid hst
    clear hinv hst
    generalize T[i] = n at *
    by_cases ho : n.op = 1
    · have b1 : (n.op == 1) = true := by simp [ho]
      have h0 := HST.out.not0 ho
      have HO := Lib.hid ho
      obtain ⟨k, hk⟩ : ∃ k : Nat, n.a0 = k := ⟨n.a0.toNat, by omega⟩
      rw [hk] at y2
      have HK := Lib.hid hk
      have hki : k < i := by omega
      clear ho h0 hk
      go_wp2
      go_roundg (gk - 1)
      case measure => omega
      case rel => exact ⟨rfl, k, _, by omega, by omega, rfl, rfl, fun x hx => HI.out x ⟨.step HG.out HO.out (by rw [HK.out]; exact hx.1), hx.2⟩⟩
    · have b1 : (n.op == 1) = false := by simp [ho]
      have HO := Lib.hid ho
      clear ho
      go_wp2
      go_ret2
      exact ⟨⟨_, _, rfl, HI.out i ⟨.refl _, ⟨by omega, by omega⟩, fun m hm => by rw [Int.toNat_natCast, HG.out] at hm; injection hm with hm; exact hm ▸ HO.out⟩⟩, rfl⟩

/-- What was seen so far. -/
def Processed (T : List Nd) (i k : Nat) (y : Int) : Prop := ∃ (p : Nat) (n : Nd) (j : Nat), T[p]? = some n ∧ n.op = 13 ∧ (j : Int) < n.len ∧ j < 3 ∧ BareOf T (n.arg j) y ∧ (p < i ∨ (p = i ∧ j < k))
def CountsOf (T : List Nd) (i k : Nat) (f : Value → Option Value) : Prop := ∀ y : Int, (Processed T i k y ∧ ∃ q : Int, f (.int .i64 y) = some (.int .i64 q) ∧ 1 ≤ q ∧ q ≤ 3 * i + k) ∨ (¬ Processed T i k y ∧ f (.int .i64 y) = none)
theorem NdAt.arg {w : World} {b o : Nat} {n : Nd} (h : NdAt w b o n) (k : Nat) (hk : k < 3) : w.cell? ⟨b, o + 2 + k, none⟩ = some (.int .i64 (n.arg k)) := by
  have := h.cells (2 + k) (by omega)
  rw [← Nat.add_assoc] at this
  rw [this]
  match k, hk with
  | 0, _ => rfl
  | 1, _ => rfl
  | 2, _ => rfl
theorem Processed.next {T : List Nd} {i : Nat} {y : Int} : Processed T (i + 1) 0 y ↔ Processed T i 3 y := by
  constructor
  · rintro ⟨p, n, j, h1, h2, h3, h4, h5, h6⟩
    exact ⟨p, n, j, h1, h2, h3, h4, h5, by omega⟩
  · rintro ⟨p, n, j, h1, h2, h3, h4, h5, h6⟩
    exact ⟨p, n, j, h1, h2, h3, h4, h5, by omega⟩
theorem Processed.short {T : List Nd} {i k : Nat} {n : Nd} (hn : T[i]? = some n) (h : n.op ≠ 13 ∨ n.len ≤ k) {y : Int} (m : Nat) (hm : k ≤ m) : Processed T i m y ↔ Processed T i k y := by
  constructor
  · rintro ⟨p, n', j, h1, h2, h3, h4, h5, h6⟩
    refine ⟨p, n', j, h1, h2, h3, h4, h5, ?_⟩
    rcases h6 with h6 | ⟨rfl, h6⟩
    · exact .inl h6
    · rw [hn] at h1
      injection h1 with h1
      subst h1
      rcases h with h | h
      · exact absurd h2 h
      · exact .inr ⟨rfl, by omega⟩
  · rintro ⟨p, n', j, h1, h2, h3, h4, h5, h6⟩
    exact ⟨p, n', j, h1, h2, h3, h4, h5, by omega⟩
theorem processed_push {T : List Nd} {i k : Nat} {n : Nd} (hn : T[i]? = some n) (ho : n.op = 13) (hk : (k : Int) < n.len) (hk3 : k < 3) {x : Int} (hx : BareOf T (n.arg k) x) (y : Int) : Processed T i (k + 1) y ↔ Processed T i k y ∨ y = x := by
  constructor
  · rintro ⟨p, n', j, h1, h2, h3, h4, h5, h6⟩
    rcases h6 with h6 | ⟨rfl, h6⟩
    · exact .inl ⟨p, n', j, h1, h2, h3, h4, h5, .inl h6⟩
    · rcases Nat.lt_succ_iff_lt_or_eq.1 h6 with h6 | rfl
      · exact .inl ⟨p, n', j, h1, h2, h3, h4, h5, .inr ⟨rfl, h6⟩⟩
      · rw [hn] at h1
        injection h1 with h1
        subst h1
        exact .inr (h5.one hx)
  · rintro (⟨p, n', j, h1, h2, h3, h4, h5, h6⟩ | rfl)
    · exact ⟨p, n', j, h1, h2, h3, h4, h5, by omega⟩
    · exact ⟨i, n, k, hn, ho, hk, hk3, hx, .inr ⟨rfl, by omega⟩⟩
theorem processed_all {T : List Nd} {y : Int} : Processed T T.length 0 y ↔ ArgOf T y ∧ (0 ≤ y ∧ y < T.length) ∧ ∀ n, T[y.toNat]? = some n → n.op ≠ 1 := by
  constructor
  · rintro ⟨p, n, j, h1, h2, h3, h4, h5, h6⟩
    exact ⟨⟨p, n, j, h1, h2, h3, h4, h5.1⟩, h5.2⟩
  · rintro ⟨⟨p, n, j, h1, h2, h3, h4, h5⟩, h6⟩
    exact ⟨p, n, j, h1, h2, h3, h4, ⟨h5, h6⟩, .inl (List.getElem?_eq_some_iff.1 h1).1⟩
end Go.Proofs.Ytbgbhfmchpdkcaa

/- arguments: how often a node is an argument. -/
namespace Go.Proofs.Ytbgbhfmchpdkcaa
open Go.RowKit

theorem zero_int (w : World) : (zeroValue 3).run Try.prog w = .ok (.int .i64 0) w := by kernel_rfl
def ArgMap (T : List Nd) (w : World) (M : Nat) : Prop := ∃ f m, MapAt Try.prog 3 w M m f ∧ m ≤ 1000000 ∧ CountsOf T T.length 0 f
theorem ArgMap.below {T : List Nd} {w w' : World} {M : Nat} (h : ArgMap T w M) (hb : Below w.heap.size w w') : ArgMap T w' M := by
  obtain ⟨f, m, h1, h2, h3⟩ := h
  exact ⟨f, m, h1.below hb h1.lt, h2, h3⟩
theorem counts_push {T : List Nd} {i k : Nat} {n : Nd} {f : Value → Option Value} (hf : CountsOf T i k f) (hn : T[i]? = some n) (ho : n.op = 13) (hk : (k : Int) < n.len) (hk3 : k < 3) {x : Int} (hx : BareOf T (n.arg k) x) :
    ∃ v : Int, 0 ≤ v ∧ v ≤ 3 * i + k ∧ (f (.int .i64 x) = some (.int .i64 v) ∨ (f (.int .i64 x) = none ∧ v = 0)) ∧ CountsOf T i (k + 1) (putFn f (.int .i64 x) (.int .i64 (v + 1))) := by
  have key : ∀ v : Int, 0 ≤ v → v ≤ 3 * i + k → CountsOf T i (k + 1) (putFn f (.int .i64 x) (.int .i64 (v + 1))) := fun v h0 h1 y => by
    by_cases hy : y = x
    · subst hy
      exact .inl ⟨(processed_push hn ho hk hk3 hx y).2 (.inr rfl), v + 1, putFn_at _ _ _, by omega, by omega⟩
    · have hne : Value.int .i64 y ≠ .int .i64 x := fun e => hy (by injection e)
      rw [putFn_far _ _ _ _ hne]
      rcases hf y with ⟨h2, q, h3, h4, h5⟩ | ⟨h2, h3⟩
      · exact .inl ⟨(processed_push hn ho hk hk3 hx y).2 (.inl h2), q, h3, h4, by omega⟩
      · exact .inr ⟨fun h => ((processed_push hn ho hk hk3 hx y).1 h).elim h2 hy, h3⟩
  rcases hf x with ⟨_, q, h3, h4, h5⟩ | ⟨_, h3⟩
  · exact ⟨q, by omega, h5, .inl h3, key q (by omega) h5⟩
  · exact ⟨0, by omega, by omega, .inr ⟨h3, rfl⟩, key 0 (by omega) (by omega)⟩

set_option maxRecDepth 100000 in
set_option maxHeartbeats 4000000 in
theorem args_ok {w : World} {q : Nat} {A : Option Addr} {c : Nat} {T : List Nd} (h : TabP w q A c T) (hT : TabOk T) :
    Calls Try.prog 44 #[.pointer (some ⟨q, 0, none⟩)] w fun e w' => ∃ M, e = .returned (.map (some M)) ∧ ArgMap T w' M ∧ Below w.heap.size w w' := by
  have hlen := h.tab.len
  have hmm := @run_makeMap Try.prog
  have c0 := h.blk.cell 0
  simp only [List.getElem?_toArray, List.getElem?_cons_zero] at c0
  have hq := h.blk.lt
  have H := Lib.hid h
  have HT := Lib.hid hT
  have HM0 := Lib.hid (MapAt.made Try.prog 3 w)
  have HB0 := Lib.hid (show Below w.heap.size w (w.alloc (.map #[] 0)) from (Below.refl _ w).alloc (Nat.le_refl _) _)
  clear h hT
  go_enter Try.func44, Try.ntmps44
  go_wp2
  go_loopg [15] T.length (fun g v wr => ∃ i : Nat, ∃ f, i + g = T.length ∧ v = .int .i64 i ∧ MapAt Try.prog 3 wr w.heap.size (3 * i) f ∧ CountsOf T i 0 f ∧ Below w.heap.size w wr)
  case atStart => exact ⟨0, _, by omega, rfl, HM0.out, fun y => .inr ⟨fun ⟨p, n, j, _, _, _, _, _, h⟩ => by omega, rfl⟩, HB0.out⟩
  case round =>
    obtain ⟨wo, rfl⟩ : ∃ wo : World, wo = wr := ⟨_, rfl⟩
    obtain ⟨i, f, hig, rfl, hmap, hcnt, hb⟩ := hrel
    have HM := Lib.hid hmap
    have HC := Lib.hid hcnt
    have HB := Lib.hid hb
    clear hmap hcnt hb
    cases gk with
    | zero =>
      obtain rfl : i = T.length := by omega
      have d1 : decide ((T.length : Int) < T.length) = false := by simp
      go_wp2
      go_ret
      exact ⟨_, rfl, ⟨f, _, HM.out, by omega, HC.out⟩, HB.out⟩
    | succ gk =>
      have hlt : i < T.length := by omega
      have d1 : decide ((i : Int) < T.length) = true := by simp; omega
      have t1 : (0 : Int) ≤ (i : Int) := by omega
      have t2 : (i : Int) < (T.length : Int) := by omega
      obtain ⟨b, off, hA, hbb, hcell⟩ := (H.out.tab.below HB.out).at_.resolve_left (by omega)
      have hn := hcell i hlt
      have HP := Lib.hid (H.out.below HB.out)
      subst hA
      obtain ⟨y0, y1, y2, y3, y4, y5, y6, y7⟩ := hn.all
      have HG := Lib.hid (List.getElem?_eq_getElem hlt)
      have HST := Lib.hid (HT.out.st i _ (List.getElem?_eq_getElem hlt))
      have hl := HST.out.len
      have HBX := Lib.hid (Blk.new wo 52 (nodeCells T[i]).toArray)
      have HWf := Lib.hid hn.wf
      clear hcell hn
      generalize T[i] = n at *
      obtain ⟨m, hm⟩ : ∃ m : Nat, n.len = m := ⟨n.len.toNat, by omega⟩
      rw [hm] at y1
      have HM3 := Lib.hid hm
      have hm3 : m ≤ 3 := by omega
      have HE := Lib.hid (show (#[.int .i8 n.op, .int .i8 (m : Int), .int .i64 n.a0, .int .i64 n.a1, .int .i64 n.a2, .int .i64 n.sort, .int .i64 n.fn, .int .i64 n.num] : Array Value) = (nodeCells n).toArray by simp [nodeCells, hm])
      clear hm hl
      have HB1 := Lib.hid (show Below w.heap.size w (wo.alloc (.cells (nodeCells n).toArray 52)) from HB.out.alloc HB.out.size _)
      have HM1 := Lib.hid (HM.out.alloc (.cells (nodeCells n).toArray 52))
      have hbl : (0 : Int) ≤ (m : Int) := by omega
      go_wp2
      go_loopg [22] m (fun g v wx => ∃ k : Nat, ∃ f, k + g = m ∧ v = .int .i64 k ∧ MapAt Try.prog 3 wx w.heap.size (3 * i + k) f ∧ CountsOf T i k f ∧ Below w.heap.size w wx ∧ Blk wx wo.heap.size 52 (nodeCells n).toArray)
      case atStart =>
        rw [HE.out]
        exact ⟨0, f, by omega, rfl, HM1.out, HC.out, HB1.out, HBX.out⟩
      case round =>
        obtain ⟨k, f2, hkg, rfl, hmap, hcnt, hb, hbx⟩ := hrel
        have HM2 := Lib.hid hmap
        have HC2 := Lib.hid hcnt
        have HB2 := Lib.hid hb
        have HBX2 := Lib.hid hbx
        clear hmap hcnt hb hbx
        cases gk with
        | zero =>
          obtain rfl : k = m := by omega
          have d2 : decide (k < k) = false := by simp
          have d3 : decide ((k : Int) < (k : Int)) = false := by simp
          go_wp2
          go_roundg gk
          case measure => omega
          case rel =>
            refine ⟨i + 1, f2, by omega, by go_num, HM2.out.mono (by omega), fun y => ?_, HB2.out⟩
            have e1 : Processed T (i + 1) 0 y ↔ Processed T i k y := Processed.next.trans (Processed.short HG.out (.inr (by rw [HM3.out]; omega)) 3 (by omega))
            rcases HC2.out y with ⟨g1, v, g2, g3, g4⟩ | ⟨g1, g2⟩
            · exact .inl ⟨e1.2 g1, v, g2, g3, by omega⟩
            · exact .inr ⟨fun h => g1 (e1.1 h), g2⟩
        | succ g2 =>
          have hkm : k < m := by omega
          have d2 : decide (k < m) = true := by simp; omega
          have d3 : decide ((k : Int) < (m : Int)) = true := by simp; omega
          have hnd : NdAt wr wo.heap.size 0 n := ⟨HBX2.out.lt, fun j hj => by rw [HBX2.out.cell, List.getElem?_toArray, Nat.zero_add], HWf.out⟩
          have z0 := hnd.all.1
          have z2 := hnd.arg k (by omega)
          have ha := (HST.out.args k (by omega)).1 (by rw [HM3.out]; omega)
          have haT : 0 ≤ n.arg k ∧ n.arg k < T.length := by omega
          have KB := Lib.hid (bare_ok (H.out.below HB2.out) HT.out (n.arg k) haT)
          have HKM := Lib.hid (show (k : Int) < n.len by rw [HM3.out]; omega)
          have HHnd := Lib.hid hnd
          have hbs : wo.heap.size < wr.heap.size := HBX2.out.lt
          clear ha hnd haT
          obtain ⟨av, hav⟩ : ∃ av, n.arg k = av := ⟨_, rfl⟩
          rw [hav] at z2 KB
          have HAV := Lib.hid hav
          clear hav
          have hk3 : k < 3 := by omega
          obtain ⟨ov, hov⟩ : ∃ ov, n.op = ov := ⟨_, rfl⟩
          rw [hov] at z0
          have HOV := Lib.hid hov
          clear hov
          by_cases ho : ov = 13
          · subst ho
            go_wp2_with fail
            refine KB.out.mono ?_
            rintro e w2 ⟨⟨x, nb, rfl, hbx⟩, rfl⟩
            obtain ⟨v, hv0, hv1, hfv, hcp⟩ := counts_push HC2.out HG.out HOV.out HKM.out hk3 (by rw [HAV.out]; exact hbx)
            have hx := hbx.2.1
            have hkx := int_key_of (x := x) (by omega) (by omega)
            have hlook : (Instr.lookup 61 (.map (some w.heap.size)) (.int .i64 x) false).run Try.prog wr = .ok (.int .i64 v) wr := by
              rw [HM2.out.look int_key Try.underlying61 (zero_int wr) hkx false]
              rcases hfv with h | ⟨h, h2⟩
              · rw [h]
                rfl
              · rw [h, h2]
                rfl
            obtain ⟨w3, hrun, hm2, hg⟩ := HM2.out.store int_key Try.underlying61 (by unfold maxLen; omega) hkx (.int .i64 (v + 1)) (g := putFn f2 (.int .i64 x) (.int .i64 (v + 1))) (putFn_at _ _ _) (fun y hy => putFn_far _ _ _ y hy)
            have HM4 := Lib.hid hm2
            have HG4 := Lib.hid hg
            have HCP := Lib.hid hcp
            have hv2 : v ≤ 1000000 := by omega
            clear hm2 hg hcp hbx hfv hkx z0 z2 hv1 hx
            go_wp2
            go_roundg g2
            case measure => omega
            case rel =>
              refine ⟨k + 1, _, by omega, by go_num, HM4.out, HCP.out, grown_below HG4.out HB2.out HB2.out.size (fun p e => by injection e with e; omega), HBX2.out.grown HG4.out (fun e => by injection e with e; have := HM.out.lt; omega)⟩
          · have b1 : (ov == 13) = false := by simp [ho]
            have HO := Lib.hid ho
            clear ho
            go_wp2
            go_roundg g2
            case measure => omega
            case rel =>
              refine ⟨k + 1, f2, by omega, by go_num, HM2.out.mono (by omega), fun y => ?_, HB2.out, HBX2.out⟩
              have e1 : Processed T i (k + 1) y ↔ Processed T i k y := Processed.short HG.out (.inl (by rw [HOV.out]; exact HO.out)) (k + 1) (by omega)
              rcases HC2.out y with ⟨g1, v, g2, g3, g4⟩ | ⟨g1, g2⟩
              · exact .inl ⟨e1.2 g1, v, g2, g3, by omega⟩
              · exact .inr ⟨fun h => g1 (e1.1 h), g2⟩
end Go.Proofs.Ytbgbhfmchpdkcaa

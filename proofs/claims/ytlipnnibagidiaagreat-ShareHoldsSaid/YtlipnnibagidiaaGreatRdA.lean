/- The reader of clauses: atoms.Make, atoms.Neg, share.read, reader.lit. -/
import Derived.Test.YtlipnnibagidiaaGreatImC
import Derived.WalkKit
import Derived.Laws.BitsAllLaws
import Derived.Laws.BitsLemmas
namespace Go.Proofs.YtlipnnibagidiaaGreat
open Go.RowKit Go.Lib
structure FX (w : World) (A : Option Addr) (T : List Nd) (c : Nat) (n : Nd) (X j : Nat) (sv : Value) (W : World) : Prop where
  t : Blk W w.heap.size 33 #[.slice A T.length c]
  nd : Blk W X 51 (nodeCells n).toArray
  hX : w.heap.size + 1 ≤ X
  tab0 : Tab w A T
  own : W.ownsRow (X + 1) 3 1 sv j (((List.range n.len.toNat).take j).map fun k => Value.int .i64 (ndAt T (n.arg k)).sort)
  bel : Below w.heap.size w W
theorem FX.push {w W W2 : World} {A : Option Addr} {T : List Nd} {c X j : Nat} {n : Nd} {sv : Value} (h : FX w A T c n X j sv W) (hj : j < n.len.toNat) {x : Int} (hx : (ndAt T (n.arg j)).sort = x) {g cap k : Nat}
    (ho : W2.ownsRow (X + 1) 3 1 (.slice (some ⟨g, 0, none⟩) (j + 1) cap) (j + 1) (((List.range n.len.toNat).take j).map (fun k => Value.int .i64 (ndAt T (n.arg k)).sort) ++ #[Value.int .i64 x].toList)) {cs : Obj} (hg : ((W.alloc cs).drewN k).grownBy W2 sv.ownBlock) : FX w A T c n X (j + 1) (.slice (some ⟨g, 0, none⟩) (j + 1) cap) W2 := by
  have hk0 : Kept (fun b => some b = sv.ownBlock) W ((W.alloc cs).drewN k) := Kept.of_below (S := fun b => some b = sv.ownBlock) (below_drewN ((Below.refl _ W).alloc (Nat.le_refl _) _) k)
  have hk := hk0.grown hg (fun k e => .inl e.symm)
  have hX := h.hX
  have hob : ∀ b, some b = sv.ownBlock → X + 1 ≤ b := fun b e => (h.own.lt b e.symm).1
  refine ⟨h.t.kept hk (fun e => by have := hob _ e; omega), h.nd.kept hk (fun e => by have := hob _ e; omega), h.hX, h.tab0, ?_, h.bel.trans (hk.below h.bel.size (fun k e => by have := hob k e; omega))⟩
  rw [List.take_add_one, List.getElem?_range hj, List.map_append]
  simpa [hx] using ho
set_option maxRecDepth 100000 in
set_option maxHeartbeats 8000000 in
theorem fit_ok {T : List Nd} {w : World} {A : Option Addr} (c : Nat) (hT : TabOk T) (h : Tab w A T) :
    Calls Tryz.prog 42 #[.agg #[.slice A T.length c]] w fun e w' => ∃ r, e = .returned (.bool r) ∧ (r = true → fitT T) ∧ Below w.heap.size w w' := by
  have hlen := h.len
  obtain ⟨i0, hi0, hz0, hz1, hz2⟩ := info_parts int_info
  have HT := zzh hT
  have H := zzh h
  have HB0 := zzh (show Below w.heap.size w (w.alloc (.cells #[.slice A T.length c] 33)) from (Below.refl _ w).alloc (Nat.le_refl _) _)
  have HBT := zzh (Blk.new w 33 #[.slice A T.length c])
  clear h hT
  go_enter Tryz.func42, Tryz.ntmps42
  go_wp2
  go_loopg [3] T.length (fun g v wo => ∃ i : Nat, i + g = T.length ∧ v = .int .i64 i ∧ (∀ n ∈ T.take i, n.op ≠ 13 → opL n.op (argSorts T n) = some n.sort) ∧ Blk wo w.heap.size 33 #[.slice A T.length c] ∧ Below w.heap.size w wo)
  case atStart => exact ⟨0, by omega, rfl, by simp, HBT.out, HB0.out⟩
  case round =>
    obtain ⟨wo, hwo⟩ : ∃ wo, wo = wr := ⟨_, rfl⟩
    subst hwo
    obtain ⟨i, hig, rfl, hall, hbt, hb⟩ := hrel
    have HA := zzh hall
    have HB := zzh hb
    have c0 := hbt.cell 0
    simp only [zzg, zzi] at c0
    have HBTr := zzh hbt
    clear hall hbt hb
    cases gk with
    | zero =>
      obtain rfl : i = T.length := by omega
      have d1 : decide ((T.length : Int) < T.length) = false := by simp
      go_wp2
      go_ret
      exact ⟨true, rfl, fun _ n hn => HA.out n (by rw [List.take_length]; exact hn), HB.out⟩
    | succ gk =>
      have hlt : i < T.length := by omega
      have d1 : decide ((i : Int) < T.length) = true := by simp; omega
      have t1 : (0 : Int) ≤ (i : Int) := by omega
      have t2 : (i : Int) < (T.length : Int) := by omega
      obtain ⟨b, off, hA, hbb, hcell⟩ := (H.out.below HB.out).at_.resolve_left (by omega)
      have HST := zzh (HT.out.st i T[i] (List.getElem?_eq_getElem hlt))
      have HMem : Hid (T[i] ∈ T) := zzh (List.getElem_mem hlt)
      have HNext : Hid ((T[i].op ≠ 13 → opL T[i].op (argSorts T T[i]) = some T[i].sort) → ∀ n ∈ T.take (i + 1), n.op ≠ 13 → opL n.op (argSorts T n) = some n.sort) := zzh (fun e n hn => by
        rw [List.take_add_one, List.getElem?_eq_getElem hlt] at hn
        rcases List.mem_append.1 hn with hn | hn
        · exact HA.out n hn
        · simp at hn
          rw [hn]
          exact e)
      obtain ⟨y0, y1, y2, y3, y4, y5, y6, y7⟩ := (hcell i hlt).all
      subst hA
      clear hcell
      generalize T[i] = n at *
      have hbN : Below wo.heap.size wo (wo.alloc (.cells #[.int .i8 n.op, .int .i8 n.len, .int .i64 n.a0, .int .i64 n.a1, .int .i64 n.a2, .int .i64 n.sort, .int .i64 n.fn, .int .i64 n.num] 51)) := (Below.refl _ wo).alloc (Nat.le_refl _) _
      have HBN := zzh (HB.out.trans (hbN.mono HB.out.size))
      have HTN := zzh (HBTr.out.below hbN HBTr.out.lt)
      have HNN := zzh (Blk.new wo 51 #[.int .i8 n.op, .int .i8 n.len, .int .i64 n.a0, .int .i64 n.a1, .int .i64 n.a2, .int .i64 n.sort, .int .i64 n.fn, .int .i64 n.num])
      clear hbN
      by_cases h13 : n.op = 13
      · have e1 : (n.op == 13) = true := by simp [h13]
        have HN2 := zzh (HNext.out (fun e => absurd h13 e))
        clear h13
        go_wp2
        go_roundg gk
        case measure => omega
        case rel => exact ⟨i + 1, by omega, by go_num, HN2.out, HTN.out, HBN.out⟩
      · have e1 : (n.op == 13) = false := by simp [h13]
        have H13 := zzh h13
        clear h13
        go_wp2
        obtain ⟨ln, hln⟩ : ∃ ln : Nat, n.len = ln := by
          have h4 := many_len HST.out H13.out
          have h5 : 0 ≤ manyM n.op := by
            have h6 := H13.out
            rcases arity_ops HST.out with e | e | e | e | e | e | e | e | e | e | e | e | e | e
            all_goals first
              | exact absurd e h6
              | (rw [e]; decide)
          exact ⟨n.len.toNat, by omega⟩
        have HLN := zzh hln
        have hln3 : ln ≤ 3 := by
          have := many_len HST.out H13.out
          rw [hln] at this
          unfold manyM at this
          repeat' split at this
          all_goals omega
        obtain ⟨X, hX⟩ : ∃ X, wo.heap.size = X := ⟨_, rfl⟩
        have HXX := zzh hX
        have hFX : FX w (some ⟨b, off, none⟩) T c n wo.heap.size 0 (.slice none 0 0) (wo.alloc (.cells #[.int .i8 n.op, .int .i8 n.len, .int .i64 n.a0, .int .i64 n.a1, .int .i64 n.a2, .int .i64 n.sort, .int .i64 n.fn, .int .i64 n.num] 51)) := ⟨HTN.out, HNN.out, by have := HBTr.out.lt; omega, H.out, World.ownsRow_nil _ _ _ _, HBN.out⟩
        have HFX := zzh hFX
        clear hFX hX hln y0 y1 y2 y3 y4 y5 y6 y7
        obtain ⟨gk0, rfl⟩ : ∃ go : Nat, go = gk := ⟨_, rfl⟩
        go_loopg [6, 5] ln (fun gg v vs W => ∃ (j : Nat) (sv : Value), j + gg = ln ∧ v = .int .i64 j ∧ sv = vs ∧ FX w (some ⟨b, off, none⟩) T c n wo.heap.size j sv W)
        case atStart => exact ⟨0, _, by omega, rfl, rfl, HFX.out⟩
        case round =>
          obtain ⟨j, sv, hjg, rfl, rfl, hx⟩ := hrel
          have HX := zzh hx
          obtain ⟨m0, m1, m2, m3, m4, m5⟩ : wr.cell? ⟨wo.heap.size, 0, none⟩ = some (.int .i8 n.op) ∧ wr.cell? ⟨wo.heap.size, 1, none⟩ = some (.int .i8 n.len) ∧ wr.cell? ⟨wo.heap.size, 2, none⟩ = some (.int .i64 n.a0) ∧ wr.cell? ⟨wo.heap.size, 3, none⟩ = some (.int .i64 n.a1) ∧ wr.cell? ⟨wo.heap.size, 4, none⟩ = some (.int .i64 n.a2) ∧ wr.cell? ⟨wo.heap.size, 5, none⟩ = some (.int .i64 n.sort) := ⟨hx.nd.cell 0, hx.nd.cell 1, hx.nd.cell 2, hx.nd.cell 3, hx.nd.cell 4, hx.nd.cell 5⟩
          have s0 := hx.t.cell 0
          simp only [zzg, zzi] at s0
          rw [HLN.out] at m1
          have hw8 : IntKind.i64.wrap (ln : Int) = ln := by have : ln ≤ 3 := hln3; unfold IntKind.wrap; simp [IntKind.bits, IntKind.signed]; omega
          clear hx
          cases gk with
          | zero =>
            obtain rfl : j = ln := by omega
            have f1 : decide ((j : Int) < (j : Int)) = false := by simp
            obtain ⟨SA, sc, hsv⟩ := own_slice HX.out.own
            subst hsv
            have hlnN : n.len.toNat = j := by have := HLN.out; omega
            have hO : OwnL wr (wo.heap.size + 1) (.slice SA j sc) (argSorts T n) := by
              have := HX.out.own
              rw [List.take_of_length_le (by rw [List.length_range]; omega)] at this
              unfold OwnL argSorts
              rw [List.length_map, List.length_range, List.map_map, hlnN]
              rw [hlnN] at this
              exact this
            have hlA : (argSorts T n).length = j := by unfold argSorts; rw [List.length_map, List.length_range, hlnN]
            have KO := op_ok (op := n.op) sc (by
              unfold Op12
              have h6 := H13.out
              rcases arity_ops HST.out with e | e | e | e | e | e | e | e | e | e | e | e | e | e
              all_goals first
                | exact absurd e h6
                | omega) (hO.row (by omega)).1 (fun x hx => by
              unfold argSorts at hx
              obtain ⟨k, hk, rfl⟩ := List.mem_map.1 hx
              have hk' := List.mem_range.1 hk
              have ha := HST.out.arg_lt k (by omega) (by have := HLN.out; omega)
              obtain ⟨_, _, _, hst⟩ := HT.out.stands (ndAt_mem (T := T) ha.1 (by omega))
              exact hst.srt.1)
            rw [hlA] at KO
            have KO := zzh KO
            clear hO hlA hlnN
            go_wp2_with fail
            refine KO.out.mono ?_
            rintro e w2 ⟨s, er, rfl, hso, hno, hb2⟩
            have HB2 := zzh (HX.out.bel.trans (hb2.mono HX.out.bel.size))
            have HT2 := zzh (HX.out.t.below hb2 HX.out.t.lt)
            have HN2 := zzh (HX.out.nd.below hb2 HX.out.nd.lt)
            have q5 : w2.cell? ⟨wo.heap.size, 5, none⟩ = some (.int .i64 n.sort) := HN2.out.cell 5
            by_cases hok : opL n.op (argSorts T n) = some n.sort
            · obtain ⟨rfl, rfl⟩ := hso n.sort hok
              have HN3 := zzh (HNext.out (fun _ => hok))
              clear hso hno hb2 hok
              go_wp2
              go_roundg gk0
              case measure => omega
              case rel => exact ⟨i + 1, by omega, by go_num, HN3.out, HT2.out, HB2.out⟩
            · cases ho : opL n.op (argSorts T n) with
              | none =>
                have her := hno ho
                have d2 : (er != 0) = true := by simpa using her
                clear her hso hno ho hb2 hok
                go_wp2
                go_ret
                exact ⟨false, rfl, fun h => (by cases h), HB2.out⟩
              | some s0 =>
                obtain ⟨rfl, rfl⟩ := hso s0 ho
                have d2 : (s != n.sort) = true := by
                  have : s ≠ n.sort := fun e => hok (by rw [ho, e])
                  simpa using this
                clear hso hno ho hb2 hok
                go_wp2
                go_ret
                exact ⟨false, rfl, fun h => (by cases h), HB2.out⟩
          | succ g2 =>
            have hjl : j < ln := by omega
            have f1 : decide ((j : Int) < (ln : Int)) = true := by simp; omega
            have hja : (j : Int) < n.len := by rw [HLN.out]; omega
            have hai := HST.out.arg_lt j (by omega) hja
            obtain ⟨k, hk⟩ : ∃ k : Nat, n.arg j = k := ⟨(n.arg j).toNat, by omega⟩
            have hkl : k < T.length := by omega
            have HK := zzh hk
            obtain ⟨b2, off2, hA2, hgb, hgc⟩ := (H.out.below HX.out.bel).at_.resolve_left (by omega)
            cases hA2
            obtain ⟨_, _, _, _, _, z5, _, _⟩ := (hgc k hkl).all
            have HND := zzh (ndAt_nat (T := T) hkl)
            have k1 : (0 : Int) ≤ (k : Int) := by omega
            have k2 : (k : Int) < (T.length : Int) := by omega
            have hjN : j < n.len.toNat := by have := HLN.out; omega
            have HJN := zzh hjN
            have HSZ := zzh HX.out.nd.lt
            have z2 : wr.cell? ⟨wo.heap.size, 2 + j, none⟩ = some (.int .i64 (k : Int)) := by
              rw [← hk]
              rcases (show j = 0 ∨ j = 1 ∨ j = 2 by omega) with rfl | rfl | rfl
              · exact m2
              · exact m3
              · exact m4
            have tk1 : (0 : Int) ≤ (j : Int) := by omega
            have tk2 : (j : Int) < (ln : Int) := by omega
            have tk3 : (j : Int) < 3 := by omega
            have tk4 : (2 : Int) + (j : Int) < 5 := by omega
            clear hgc hja hai hjN m2 m3 m4 m5 m0
            generalize T[k] = m at *
            have h1c : Hid (∀ u ∈ #[Value.int .i64 m.sort].toList, u.oneCell' = true) := zzh (by simp [Value.oneCell'])
            obtain ⟨W1, hW1⟩ : ∃ W1, wr = W1 := ⟨_, rfl⟩
            subst hW1
            go_wp2
            go_region_law (refine step_push _ rfl (.tmp 31) (.tmp 41) 27 rfl (wo.heap.size + 1) 3 i0 (.int .i64 0) 1 8 Tryz.underlying27 hi0 hz0 hz1 hz2 rfl (by decide) sv j _ rfl (own_drewN (HX.out.own.alloc _) _) wr.heap.size #[.int .i64 m.sort] rfl (Blk.new _ _ _) rfl h1c.out (by omega) (by omega) (by have := HSZ.out; omega) (fun g2' cap3 w2 hown1 hgrow hat hlt1 => ?_))
            all_goals
              have hp := HX.out.push HJN.out (x := m.sort) (by rw [HK.out, HND.out]) hown1 hgrow
              have HP := zzh hp
              clear hp hown1 hgrow hat hlt1
            all_goals go_wp2
            all_goals
              go_roundg g2
              case measure => omega
              case rel => exact ⟨j + 1, _, by omega, by go_num, rfl, HP.out⟩
end Go.Proofs.YtlipnnibagidiaaGreat
namespace Go.Proofs.YtlipnnibagidiaaGreat
theorem xor_mod2 (n m : Nat) : (n ^^^ m) % 2 = (n + m) % 2 := by
  have h : (n ^^^ m).testBit 0 = (n.testBit 0 ^^ m.testBit 0) := Nat.testBit_xor ..
  rw [Nat.testBit_zero, Nat.testBit_zero, Nat.testBit_zero] at h
  rcases Nat.mod_two_eq_zero_or_one n with a | a <;> rcases Nat.mod_two_eq_zero_or_one m with b | b <;> rcases Nat.mod_two_eq_zero_or_one (n ^^^ m) with c | c <;> simp [a, b, c] at h <;> omega
theorem ofInt_i64 (a : Nat) (ha : a < 9223372036854775808) : (BitVec.ofInt 64 (a : Int)).toNat = a := by
  rw [BitVec.ofInt_natCast, BitVec.toNat_ofNat]; exact Nat.mod_eq_of_lt (by omega)
theorem i64_and_nat (a b : Nat) (ha : a < 9223372036854775808) (hb : b < 9223372036854775808) : bits .and .i64 (a : Int) (b : Int) = ((a &&& b : Nat) : Int) := by
  have hx : a &&& b < 2 ^ 63 := Nat.and_lt_two_pow _ (by omega)
  show IntKind.i64.wrap ((BitVec.ofInt 64 (a : Int) &&& BitVec.ofInt 64 (b : Int)).toNat : Int) = _
  rw [BitVec.toNat_and, ofInt_i64 a ha, ofInt_i64 b hb, IntKind.wrap_i64]
  omega
theorem i64_xor_nat (a b : Nat) (ha : a < 9223372036854775808) (hb : b < 9223372036854775808) : bits .xor .i64 (a : Int) (b : Int) = ((a ^^^ b : Nat) : Int) := by
  have hx : a ^^^ b < 2 ^ 63 := Nat.xor_lt_two_pow (by omega) (by omega)
  show IntKind.i64.wrap ((BitVec.ofInt 64 (a : Int) ^^^ BitVec.ofInt 64 (b : Int)).toNat : Int) = _
  rw [BitVec.toNat_xor, ofInt_i64 a ha, ofInt_i64 b hb, IntKind.wrap_i64]
  omega
theorem i64_and_one (a : Int) (h0 : 0 ≤ a) (ha : a < 9223372036854775808) : bits .and .i64 a 1 = a % 2 := by
  obtain ⟨n, rfl⟩ := Int.eq_ofNat_of_zero_le h0
  have := i64_and_nat n 1 (by omega) (by omega)
  rw [Nat.and_one_is_mod] at this
  rw [show (1 : Int) = ((1 : Nat) : Int) from rfl, this]
  omega
theorem i64_xor_one (a : Int) (h0 : 0 ≤ a) (ha : a < 9223372036854775808) : bits .xor .i64 a 1 = if a % 2 = 0 then a + 1 else a - 1 := by
  obtain ⟨n, rfl⟩ := Int.eq_ofNat_of_zero_le h0
  have := i64_xor_nat n 1 (by omega) (by omega)
  rw [show (1 : Int) = ((1 : Nat) : Int) from rfl, this]
  have h2 : (n ^^^ 1) % 2 = (n + 1) % 2 := xor_mod2 _ _
  have h3 : (n ^^^ 1) / 2 = n / 2 := by rw [Nat.xor_div_two]; simp
  split <;> omega
end Go.Proofs.YtlipnnibagidiaaGreat
namespace Go.Proofs.YtlipnnibagidiaaGreat
open Go.RowKit Go.Lib
theorem atom_ok (k : Int) (hk : 0 ≤ k ∧ k ≤ 1000000) (w : World) : Calls Tryz.prog 127 #[.int .i64 k, .bool false] w fun e w' => e = .returned (.int .i64 (2 * k)) ∧ w = w' := by
  have h2 : wrap64 (k * 2 ^ 1) = 2 * k := by unfold wrap64; omega
  go_enter Tryz.func127, Tryz.ntmps127
  go_wp2
  go_ret
  exact ⟨ret_int (by omega), rfl⟩
def negG (x : Int) : Int := bits .xor .i64 x 1
theorem negG_pos {x : Int} (h0 : 0 ≤ x) (h1 : x < 9223372036854775808) : negG x = if x % 2 = 0 then x + 1 else x - 1 := i64_xor_one x h0 h1
theorem neg_ok (x : Int) (w : World) : Calls Tryz.prog 152 #[.int .i64 x] w fun e w' => e = .returned (.int .i64 (negG x)) ∧ w = w' := by
  go_enter Tryz.func152, Tryz.ntmps152
  go_wp2
  go_ret
  exact ⟨rfl, rfl⟩
structure Reader (w : World) (r : Nat) (A : Option Addr) (T : List Nd) (c M : Nat) (bad : Bool) : Prop where
  blk : Blk w r 163 #[.slice A T.length c, .map (some M), .bool bad]
  map : ∃ n f, MapAt Tryz.prog 51 w M n f ∧ PlaceF T T.length f
  tab : Tab w A T
  cap : T.length ≤ c
  ne : M ≠ r
theorem Reader.keep {w w' : World} {r : Nat} {A : Option Addr} {T : List Nd} {c M : Nat} {bad : Bool} (h : Reader w r A T c M bad) (hb : Below w.heap.size w w') : Reader w' r A T c M bad := by
  obtain ⟨n, f, h1, h2⟩ := h.map
  exact ⟨h.blk.below hb h.blk.lt, ⟨n, f, h1.below hb h1.lt, h2⟩, h.tab.below hb, h.cap, h.ne⟩
theorem Blk.small3 {W : World} {g : Nat} {t : TypeId} {a b c : Value} (h : Blk W g t #[a, b, c]) (i : Nat) : W.cell? ⟨g, i + 7, none⟩ = none := by
  rw [h.cell]
  simp
theorem Reader.bad_ {w : World} {r : Nat} {A : Option Addr} {T : List Nd} {c M : Nat} {bad : Bool} (h : Reader w r A T c M bad) (b : Bool) : Reader (w.setCell ⟨r, 2, none⟩ (.bool b)) r A T c M b := by
  have hk := Kept.set1 w r 2 (.bool b)
  obtain ⟨n, f, h1, h2⟩ := h.map
  exact ⟨h.blk.set_ 2 _, ⟨n, f, h1.kept hk h.ne, h2⟩, h.tab.far (fun i => h.blk.small3 i) hk, h.cap, h.ne⟩
set_option maxRecDepth 100000 in
set_option maxHeartbeats 4000000 in
theorem read_ok {T : List Nd} {w : World} {A : Option Addr} (c : Nat) (hc : T.length ≤ c) (h : Tab w A T) (hT : TabOk T) : Calls Tryz.prog 106 #[.agg #[.slice A T.length c]] w fun e w' => ∃ r M, e = .returned (.pointer (some ⟨r, 0, none⟩)) ∧ Reader w' r A T c M false ∧ w.heap.size ≤ r ∧ w.heap.size ≤ M ∧ Below w.heap.size w w' := by
  have hlen := h.len
  have hmm := @run_makeMap Tryz.prog
  have hb0 : Below w.heap.size w (w.alloc (.cells #[.slice A T.length c] 33)) := (Below.refl _ w).alloc (Nat.le_refl _) _
  have hM := MapAt.made Tryz.prog 51 (w.alloc (.cells #[.slice A T.length c] 33))
  rw [World.size_alloc] at hM
  have HM0 := zzh (hM.alloc (.cells #[.slice A T.length c, .map (some (w.heap.size + 1)), .bool false] 163))
  have HB0 := zzh (show Below w.heap.size w (((w.alloc (.cells #[.slice A T.length c] 33)).alloc (.map #[] 0)).alloc (.cells #[.slice A T.length c, .map (some (w.heap.size + 1)), .bool false] 163)) from (hb0.alloc (by simp) _).alloc (by simp; omega) _)
  have HBT := zzh (((Blk.new w 33 #[.slice A T.length c]).alloc (.map #[] 0)).alloc (.cells #[.slice A T.length c, .map (some (w.heap.size + 1)), .bool false] 163))
  have HBR := zzh (Blk.new_at (show ((w.alloc (.cells #[.slice A T.length c] 33)).alloc (.map #[] 0)).heap.size = w.heap.size + 1 + 1 by simp) 163 #[.slice A T.length c, .map (some (w.heap.size + 1)), .bool false])
  have HT := zzh hT
  have H := zzh h
  have HC := zzh hc
  have c0 := HBT.out.cell 0
  simp only [zzg, zzi] at c0
  clear h hT hM hb0 hc
  go_enter Tryz.func106, Tryz.ntmps106
  go_wp2
  go_loopg [13] T.length (fun g v wr => ∃ (i : Nat) (f : Value → Option Value), i + g = T.length ∧ v = .int .i64 i ∧ MapAt Tryz.prog 51 wr (w.heap.size + 1) i f ∧ PlaceF T i f ∧ Blk wr w.heap.size 33 #[.slice A T.length c] ∧ Blk wr (w.heap.size + 1 + 1) 163 #[.slice A T.length c, .map (some (w.heap.size + 1)), .bool false] ∧ Below w.heap.size w wr)
  case atStart => exact ⟨0, _, by omega, rfl, HM0.out, fun n => by simp, HBT.out, HBR.out, HB0.out⟩
  case round =>
    obtain ⟨i, f, hig, rfl, hmap, hpl, hbt, hbr, hb⟩ := hrel
    have HM := zzh hmap
    have HP := zzh hpl
    have HT1 := zzh hbt
    have HR1 := zzh hbr
    have HB := zzh hb
    have c1 := hbt.cell 0
    have r1 := hbr.cell 1
    simp only [zzg, zzi, zzj] at c1 r1
    clear hmap hpl hbt hbr hb c0
    cases gk with
    | zero =>
      obtain rfl : i = T.length := by omega
      have d1 : decide ((T.length : Int) < T.length) = false := by simp
      go_wp2
      go_ret
      exact ⟨w.heap.size + 1 + 1, w.heap.size + 1, rfl, ⟨HR1.out, ⟨_, f, HM.out, HP.out⟩, H.out.below HB.out, HC.out, by omega⟩, by omega, by omega, HB.out⟩
    | succ gk =>
      have hlt : i < T.length := by omega
      have d1 : decide ((i : Int) < T.length) = true := by simp; omega
      have t1 : (0 : Int) ≤ (i : Int) := by omega
      have t2 : (i : Int) < (T.length : Int) := by omega
      obtain ⟨b, off, hA, hbb, hcell⟩ := (H.out.below HB.out).at_.resolve_left (by omega)
      subst hA
      have y := hcell i hlt
      obtain ⟨y0, y1, y2, y3, y4, y5, y6, y7⟩ := y.all
      have hTk : T.take (i + 1) = T.take i ++ [T[i]] := by rw [List.take_add_one, List.getElem?_eq_getElem hlt]; rfl
      have hnot : T[i] ∉ T.take i := fun hm => by
        obtain ⟨j, hj, e⟩ := List.mem_iff_getElem.1 hm
        rw [List.length_take] at hj
        rw [List.getElem_take] at e
        have := (List.getElem_inj (i := j) (j := i) (h₀ := by omega) (h₁ := hlt) HT.out.once).1 e
        omega
      have HIX := zzh (idxOf_nodup HT.out.once hlt)
      obtain ⟨kl, hkl⟩ := node_keyOf y.wf
      have HTk := zzh hTk
      have HNt := zzh hnot
      generalize T[i] = n at *
      have hbN : Below wr.heap.size wr (wr.alloc (.cells (nodeCells n).toArray 51)) := (Below.refl _ wr).alloc (Nat.le_refl _) _
      obtain ⟨w2, hrun, hmap2, hgr⟩ := ((HM.out.alloc (.cells (nodeCells n).toArray 51)).drew).store node_key Tryz.underlying130 (by unfold maxLen; omega) hkl (.int .i64 i) (g := putFn f (nodeVal n) (.int .i64 i)) (putFn_at _ _ _) (fun x hx => putFn_far _ _ _ _ hx)
      have HM2 := zzh hmap2
      have hgr' := grown_undrew hgr
      have HT2 := zzh ((HT1.out.alloc _).grown hgr' (by simp))
      have HR2 := zzh ((HR1.out.alloc _).grown hgr' (by simp))
      have HB2 : Hid (Below w.heap.size w w2) := zzh (Below.grown (HB.out.alloc HB.out.size _) hgr' (Nat.le_trans HB.out.size (by simp)) (fun k e => by injection e with e; omega))
      have hlr := HR1.out.lt
      have r2 := ((hbN.cell (p := ⟨w.heap.size + 1 + 1, 1, none⟩) HR1.out.lt).trans r1)
      simp only [nodeVal, nodeCells] at hrun r2 hbN
      clear y hkl hTk hnot hmap2 hgr hgr' hcell hbN
      go_wp2
      go_region
      go_wp2
      go_roundg gk
      case measure => omega
      case rel =>
        refine ⟨i + 1, _, by omega, by go_num, HM2.out, fun m => ?_, HT2.out, HR2.out, HB2.out⟩
        rw [HTk.out]
        by_cases hm : m = n
        · subst hm
          rw [putFn_at, if_pos (by simp), HIX.out]
        · rw [putFn_far _ _ _ _ (fun e => hm (nodeVal_inj e)), HP.out m]
          simp [hm]
def litR (T : List Nd) (n : Nd) : Int := if n ∈ T then litT T n else 0
set_option maxRecDepth 100000 in
set_option maxHeartbeats 4000000 in
theorem lit_ok {T : List Nd} {w : World} {A : Option Addr} {r c M : Nat} {bad : Bool} (h : Reader w r A T c M bad) (n : Nd) (hn : NdWf n) :
    Calls Tryz.prog 149 #[.pointer (some ⟨r, 0, none⟩), nodeVal n] w fun e w' => e = .returned (.int .i64 (litR T n)) ∧ Reader w' r A T c M (bad || !decide (n ∈ T)) ∧ Kept (fun b => b = r) w w' := by
  have hlen := h.tab.len
  obtain ⟨m, f, h1, h2⟩ := h.map
  obtain ⟨kl, hkl⟩ := node_keyOf hn
  have hb0 : Below w.heap.size w (w.alloc (.cells (nodeCells n).toArray 51)) := (Below.refl _ w).alloc (Nat.le_refl _) _
  have HR0 := zzh (h.keep hb0)
  have HK0 := zzh (Kept.of_below (S := fun b => b = r) hb0)
  have HBN := zzh (Blk.new w 51 (nodeCells n).toArray)
  have hlook := fun k => ((h1.alloc (.cells (nodeCells n).toArray 51)).drewN k).look node_key Tryz.underlying130 (zero_intP _) hkl true
  have hfn := h2 n
  rw [List.take_length] at hfn
  have x0 := HR0.out.blk.cell 0
  have x1 := HR0.out.blk.cell 1
  have x2 := HR0.out.blk.cell 2
  have f2 := HR0.out.blk.frozen 2
  have n0 := HBN.out.cell 0
  have n1 := HBN.out.cell 1
  have n2 := HBN.out.cell 2
  have n3 := HBN.out.cell 3
  have n4 := HBN.out.cell 4
  have n5 := HBN.out.cell 5
  have n6 := HBN.out.cell 6
  have n7 := HBN.out.cell 7
  simp only [nodeVal, nodeCells, zzg, zzi, zzj] at x0 x1 x2 f2 n0 n1 n2 n3 n4 n5 n6 n7 hlook HR0 HK0 hfn ⊢
  by_cases hm : n ∈ T
  · have HIX : Hid (((T.idxOf n : Nat) : Int) ≤ 1000000) := zzh (by have := List.idxOf_lt_length_iff.2 hm; omega)
    have HL : Hid (litR T n = 2 * ((T.idxOf n : Nat) : Int)) := zzh (by unfold litR; rw [if_pos hm]; rfl)
    have HD : Hid ((bad || !decide (n ∈ T)) = bad) := zzh (by simp [hm])
    rw [if_pos hm] at hfn
    simp only [hfn, if_true] at hlook
    clear hm h h1 h2 hkl hb0 hfn
    cases bad with
    | true =>
      go_enter Tryz.func149, Tryz.ntmps149
      go_wp2
      go_quiet (fail)
      go_wp2_with fail
      refine (atom_ok (T.idxOf n : Nat) ⟨by omega, HIX.out⟩ _).mono ?_
      rintro e w' ⟨rfl, rfl⟩
      go_wp2
      go_ret
      rw [HL.out, HD.out]
      exact ⟨rfl, (HR0.out.keep (below_drewN (Below.refl _ _) nq)).bad_ true, (HK0.out.drewN nq).setCell (.inl rfl) _⟩
    | false =>
      go_enter Tryz.func149, Tryz.ntmps149
      go_wp2
      go_quiet (fail)
      go_wp2_with fail
      refine (atom_ok (T.idxOf n : Nat) ⟨by omega, HIX.out⟩ _).mono ?_
      rintro e w' ⟨rfl, rfl⟩
      go_wp2
      go_ret
      rw [HL.out, HD.out]
      exact ⟨rfl, (HR0.out.keep (below_drewN (Below.refl _ _) nq)).bad_ false, (HK0.out.drewN nq).setCell (.inl rfl) _⟩
  · have HL : Hid (litR T n = 2 * 0) := zzh (by unfold litR; rw [if_neg hm]; rfl)
    have HD : Hid ((bad || !decide (n ∈ T)) = true) := zzh (by simp [hm])
    rw [if_neg hm] at hfn
    simp only [hfn, if_true] at hlook
    clear hm h h1 h2 hkl hb0 hfn
    cases bad with
    | true =>
      go_enter Tryz.func149, Tryz.ntmps149
      go_wp2
      go_quiet (fail)
      go_wp2_with fail
      refine (atom_ok 0 ⟨by decide, by decide⟩ _).mono ?_
      rintro e w' ⟨rfl, rfl⟩
      go_wp2
      go_ret
      rw [HL.out, HD.out]
      exact ⟨rfl, (HR0.out.keep (below_drewN (Below.refl _ _) nq)).bad_ true, (HK0.out.drewN nq).setCell (.inl rfl) _⟩
    | false =>
      go_enter Tryz.func149, Tryz.ntmps149
      go_wp2
      go_quiet (fail)
      go_wp2_with fail
      refine (atom_ok 0 ⟨by decide, by decide⟩ _).mono ?_
      rintro e w' ⟨rfl, rfl⟩
      go_wp2
      go_ret
      rw [HL.out, HD.out]
      exact ⟨rfl, (HR0.out.keep (below_drewN (Below.refl _ _) nq)).bad_ true, (HK0.out.drewN nq).setCell (.inl rfl) _⟩
end Go.Proofs.YtlipnnibagidiaaGreat

/- Neg, Lemma, One. -/
import Derived.Test.YtkapbdjobfbhhaaGreatEuZ
namespace Go.Proofs.YtkapbdjobfbhhaaGreat
open Go.RowKit Go.Lib
theorem OwnL.row {w : World} {B : Nat} {v : Value} {zs : List Int} (h : OwnL w B v zs) (hl : zs.length ≤ 100000) : ∃ A cap, v = .slice A zs.length cap ∧ Row w A zs ∧ zs.length ≤ cap ∧ ∀ a, A = some a → a.block < w.heap.size := by
  rcases h.2 with ⟨rfl, h0⟩ | ⟨g, cap, cur, rfl, hb, hg, hc, hM, _⟩
  · exact ⟨none, 0, by rw [h0], ⟨hl, .inl h0⟩, by omega, fun a e => by cases e⟩
  · refine ⟨_, cap, rfl, ⟨hl, .inr ⟨g, 0, rfl, Blk.lt hg, fun i hi => ?_⟩⟩, hc, fun a e => by injection e with e; subst e; exact Blk.lt hg⟩
    have := h.cells (g := g) rfl i (.int .i64 zs[i]) (by rw [List.getElem?_map, List.getElem?_eq_getElem hi]; rfl)
    rw [addr_add] at this
    rw [Nat.zero_add]
    exact this
section
variable {w w' : World} {H : Nat} {X : Nat → Prop} {cb q bf : Nat} {A : Option Addr} {c : Nat} {T : List Nd} {J : List Jn} {m : Nat} {more : Bool}
theorem Cl.push (h : Cl w H X cb q bf A c T J m more) {S Y : Nat → Prop} (hk : Kept S w w') (hs : ∀ b, b < w.heap.size → S b → X b) (hX : ∀ b, X b → H ≤ b) (hXY : ∀ b, X b → Y b) (hY : ∀ b, Y b → X b ∨ w.heap.size ≤ b) (hY2 : ∀ b, Y b → b < w'.heap.size) : Cl w' H Y cb q bf A c T J m more := by
  have hcb := h.blk.lt
  refine ⟨h.blk.kept hk fun hS => h.hcb.2 (hs cb hcb hS), h.tab.kept hk (fun hS => ?_) (fun a e hS => ?_), (h.fo.guard fun b hq => ?_).keep hk fun b hb hS => .inr (.inl (hXY b (hs b hb hS))), h.hq, h.hA, ⟨h.hcb.1, fun hy => ?_⟩, hY2, Nat.le_trans h.hH hk.size, h.hT⟩
  · have := hX q (hs q h.tab.blk.lt hS)
    have := h.hq
    omega
  · have h1 := h.hA a e
    have := hX a.block (hs a.block (Nat.lt_of_lt_of_le h1 h.hH) hS)
    omega
  · rcases hq with hq | hq | hq
    · exact .inl (.inl hq)
    · exact (hY b hq).imp (fun h => .inr (.inl h)) id
    · exact .inl (.inr (.inr hq))
  · rcases hY cb hy with g | g
    · exact h.hcb.2 g
    · omega
theorem Done.rep {S : Int → Prop} (h : Done T S J) {i r : Int} (hr : RepR (T.length + 1) J i r) : IsRep (Cg T S) T.length i r :=
  ⟨⟨hr.1.1, by have := hr.1.2; omega⟩, h.iff.1 hr.2.1.symm, fun b h0 h1 g => hr.2.2 b h0 (by omega) (h.iff.2 g).symm⟩
theorem Done.bad {L : List Int} {S : Int → Prop} (h : Done T S J) (hS : ∀ x, S x ↔ x ∈ L) : (cls J 0 = cls J T.length ∨ ∃ x ∈ L, AgainstJ T J x) ↔ Bad T S := by
  constructor
  · rintro (e | ⟨x, hx, h1, h2, n, h3, h4⟩)
    · exact .inl (h.iff.1 e)
    · exact .inr ⟨x, n, (hS x).2 hx, h1, h2, h3, h.iff.1 h4⟩
  · rintro (g | ⟨x, n, hx, h1, h2, h3, g⟩)
    · exact .inl (h.iff.2 g)
    · exact .inr ⟨x, (hS x).1 hx, h1, h2, n, h3, h.iff.2 g⟩
end
def CloseIs (T : List Nd) (L : List Int) (w : World) (e : Ending) (w' : World) : Prop := ∃ v cs bd er, e = .returned (.tuple #[v, .bool bd, .int .i64 er]) ∧ OwnL w' w.heap.size v cs ∧ Below w.heap.size w w' ∧ (bd = true ↔ BadL T L) ∧ ((MayLits T L ∧ er = 0 ∧ Classes T (told T L) cs) ∨ (¬ MayLits T L ∧ er = 2 ∧ cs = []))
theorem CloseIs.no {T : List Nd} {L : List Int} {w w' : World} (h : ¬ MayLits T L) (hb : Below w.heap.size w w') : CloseIs T L w (.returned (.tuple #[.slice none 0 0, .bool false, .int .i64 2])) w' :=
  ⟨_, [], false, 2, rfl, World.ownsRow_nil _ _ _ _, hb, ⟨fun e => (by cases e), fun hl => absurd hl.1 h⟩, .inr ⟨h, rfl, rfl⟩⟩
set_option maxRecDepth 100000 in
set_option maxHeartbeats 4000000 in
theorem close_ok {w : World} {A B : Option Addr} {c : Nat} {T : List Nd} {L : List Int} (cap : Nat) (h : Tab w A T) (hc : T.length ≤ c) (hT1 : T.length ≤ 100) (hL1 : L.length ≤ 300) (hr : Row w B L) :
    Calls Tryz.prog 11 #[.agg #[.slice A T.length c], .slice B L.length cap] w (CloseIs T L w) := by
  obtain ⟨i0, hi, hz0, hz1, hz2⟩ := info_parts int_info
  have HP := Lib.hid (TabP.box h hc)
  have HB := Lib.hid (show Below w.heap.size w (w.alloc (.cells #[.slice A T.length c] 33)) from (Below.refl _ w).alloc (Nat.le_refl _) _)
  have HBS : Hid (w.heap.size < (w.alloc (.cells #[.slice A T.length c] 33)).heap.size) := Lib.hid (by simp)
  have HT := Lib.hid h
  have HR := Lib.hid hr
  have HCap := Lib.hid hc
  have c0 := HP.out.blk.cell 0
  simp only [List.getElem?_toArray, List.getElem?_cons_zero] at c0
  clear h hr hc
  go_enter Tryz.func11, Tryz.ntmps11
  go_wp2_with fail
  refine (may_ok cap (HT.out.below HB.out) HCap.out (HR.out.below HB.out)).mono ?_
  rintro e w1 ⟨r, rfl, hr, hb1⟩
  have HR1 := Lib.hid hr
  have HB1 := Lib.hid (HB.out.trans (hb1.mono HB.out.size))
  have HP1 := Lib.hid (HP.out.below hb1)
  have HS1 : Hid (w.heap.size < w1.heap.size) := Lib.hid (Nat.lt_of_lt_of_le HBS.out hb1.size)
  clear hr hb1 c0
  cases r with
  | false =>
    go_wp2
    go_ret3
    exact CloseIs.no (fun hm => by have := HR1.out.2 hm; cases this) HB1.out
  | true =>
    have HM := Lib.hid (HR1.out.1 rfl)
    have c1 := HP1.out.blk.cell 0
    have hq1 := HP1.out.blk.lt
    simp only [List.getElem?_toArray, List.getElem?_cons_zero] at c1
    go_wp2_with fail
    refine (euf_ok cap (HT.out.below HB1.out) HCap.out (HR.out.below HB1.out) HM.out).mono ?_
    rintro e w2 ⟨ve, rfl, hve, hb2⟩
    have hel : (eufL T L).length ≤ L.length := List.length_filter_le _ _
    obtain ⟨A2, cap2, rfl, hrow, hcap2, hA2⟩ := hve.row (by omega)
    have HRow := Lib.hid hrow
    have HB2 := Lib.hid (HB1.out.trans (hb2.mono HB1.out.size))
    have HP2 := Lib.hid (HP1.out.below hb2)
    have hAt : ∀ a, A = some a → a.block < w.heap.size := fun a ha => by
      obtain ⟨b, off, e, hlt, _⟩ := HT.out.at_.resolve_left (by have := HM.out.1.len; omega)
      rw [ha] at e
      injection e with e
      subst e
      exact hlt
    have HAt := Lib.hid hAt
    have hlm : ∀ x ∈ eufL T L, LitMay T x := fun x hx => HM.out.2 x (mem_eufL.1 hx).1
    have HLM := Lib.hid hlm
    clear hve hb2 hrow hAt hlm c1 hq1
    go_wp2_with fail
    refine (closed_ok (S := told T L) cap2 HP2.out (fun a ha => Nat.lt_of_lt_of_le (HAt.out a ha) HB2.out.size) HM.out.1 hT1 (by omega) HRow.out HLM.out (fun x => mem_eufL.symm)).mono ?_
    rintro e w3 ⟨cb, bf, J, m, rfl, hcl, hm, hdone, hb3⟩
    have HC3 := Lib.hid hcl
    have HD := Lib.hid hdone
    have HB3 := Lib.hid (HB2.out.trans (hb3.mono HB2.out.size))
    have HS3 := Lib.hid hb3.size
    have HB23 := Lib.hid hb3
    have c1 := hcl.tab.blk.cell 0
    have hq1 := hcl.tab.blk.lt
    simp only [List.getElem?_toArray, List.getElem?_cons_zero] at c1
    clear hcl hdone hb3
    go_wp2
    go_loopg [22, 4] (T.length + 1) (fun g v vo wr => ∃ (i : Nat) (cs : List Int) (Y : Nat → Prop), i + g = T.length + 1 ∧ v = .int .i64 i ∧ OwnL wr w2.heap.size vo cs ∧ cs.length = i ∧ (∀ (j : Nat) (r : Int), cs[j]? = some r → IsRep (Cg T (told T L)) T.length j r) ∧ Cl wr w2.heap.size Y cb w.heap.size bf A c T J m false ∧ (∀ b, vo.ownBlock = some b → Y b) ∧ (∀ b, Y b → w2.heap.size ≤ b) ∧ Below w2.heap.size w2 wr)
    case atStart => exact ⟨0, [], fun _ => False, by omega, rfl, World.ownsRow_nil _ _ _ _, rfl, fun j r hj => by simp at hj, HC3.out, fun b e => (by cases e), fun _ h => h.elim, HB23.out⟩
    case round =>
      obtain ⟨i, cs, Y, hig, rfl, hown, hcs, hrep, hcl, hvY, hY, hb⟩ := hrel
      have HO := Lib.hid hown
      have HRP := Lib.hid hrep
      have HC := Lib.hid hcl
      have HVY := Lib.hid hvY
      have HY := Lib.hid hY
      have HBW := Lib.hid hb
      have HCS := Lib.hid hcs
      have HB02 := Lib.hid HB2.out.size
      clear hrep hcl hvY hY hb hcs c1 hq1
      cases gk with
      | zero =>
        obtain rfl : i = T.length + 1 := by omega
        have d1 : decide (((T.length + 1 : Nat) : Int) < (T.length : Int) + 1) = false := decide_eq_false (by omega)
        have d2 : decide (((T.length : Int) + 1) < (T.length : Int) + 1) = false := decide_eq_false (by omega)
        obtain ⟨a, cp, hv⟩ := own_slice hown
        subst hv
        have KB := Lib.hid (bad_ok cap2 HC.out HM.out.1 hm (by omega) (fun W hW => HRow.out.below (HBW.out.trans hW)) HLM.out)
        have HLen := Lib.hid (show cs.length = T.length + 1 from HCS.out)
        have HCls : Hid (Classes T (told T L) cs) := Lib.hid ⟨HCS.out, fun j hj => HRP.out j _ (List.getElem?_eq_getElem hj)⟩
        clear hown
        generalize cs.length = ln at *
        go_wp2_with fail
        refine KB.out.mono ?_
        rintro e w5 ⟨rb, rfl, hrb, hk5⟩
        have HO5 := Lib.hid (own_kept HO.out hk5 fun g hg hn => hn (.inr (HVY.out g hg)))
        have HB5 := Lib.hid (HB2.out.trans ((HBW.out.trans (Kc.below hk5 HC.out.hH)).mono HB02.out))
        have HRB := Lib.hid hrb
        clear hrb hk5
        go_wp2
        go_ret3
        refine ⟨_, cs, rb, 0, rfl, own_base HO5.out (fun g hg => Nat.le_trans HB02.out (HO5.out.lt g hg).1), HB5.out, ?_, .inl ⟨HM.out, rfl, HCls.out⟩⟩
        rw [HRB.out, HD.out.bad fun x => mem_eufL.symm]
        exact ⟨fun h => ⟨HM.out, h⟩, fun h => h.2⟩
      | succ gk =>
        have hlt : i < T.length + 1 := by omega
        have d1 : decide ((i : Int) < (T.length : Int) + 1) = true := decide_eq_true (by omega)
        obtain ⟨_, e1, _, _, hlc⟩ := HC.out.cells
        have KR := Lib.hid (fo_rep HC.out.fo i (by omega))
        have X1 : Hid ((cs.length + 1) * 8 ≤ 140737488355328) := Lib.hid (by have := HCS.out; omega)
        clear hown
        go_wp2_with fail
        refine KR.out.mono ?_
        rintro e w5 ⟨rv, rfl, hrr, hb5⟩
        have HC5 := Lib.hid (HC.out.below hb5)
        have HO5 : Hid (OwnL w5 w2.heap.size _ cs) := Lib.hid (own_kept HO.out (Kept.of_below (S := fun _ => False) hb5) (fun _ _ h => h))
        have HB5 := Lib.hid (HBW.out.trans (hb5.mono HBW.out.size))
        have HRR := Lib.hid (HD.out.rep hrr)
        clear hb5 hrr e1 hlc
        go_wp2_with (at_builtin; refine list_push _ rfl (.tmp 25) (.tmp 32) 27 rfl w2.heap.size 3 i0 (.int .i64 0) 1 8 Tryz.underlying27 hi hz0 hz1 hz2 rfl (by decide) _ cs.length (cs.map (Value.int .i64)) rfl (own_kept HO5.out ((Kept.refl (fun _ => False) w5).alloc _) (fun _ _ h => h)) w5.heap.size #[.int .i64 rv] rfl (Blk.new w5 _ _) rfl (by intro u hu; rw [List.mem_singleton.1 hu]; rfl) X1.out (by decide) HB5.out.size ?_; intro ga ca w6 ho6 hg6 hat6 hlt6; have HO6 := Lib.hid ho6; have HG6 := Lib.hid hg6; have HAT6 := Lib.hid hat6; have HLT6 := Lib.hid hlt6; clear ho6 hg6 hat6 hlt6)
        go_roundg gk
        case measure => omega
        case rel =>
          have hba : Below w5.heap.size w5 (w5.alloc (.cells #[.int .i64 rv] 3)) := (Below.refl _ w5).alloc (Nat.le_refl _) _
          have hca := HC5.out.below hba
          refine ⟨i + 1, cs ++ [rv], fun b => Y b ∨ b = ga, by omega, by go_num, ?_, by rw [List.length_append, HCS.out]; rfl, fun j r hj => ?_, hca.push ((Kept.refl _ _).grown HG6.out fun p e => .inl e) (fun b _ e => HVY.out b e) HY.out (fun b h => .inl h) (fun b h => ?_) (fun b h => ?_), fun b e => .inr (by simpa [Value.ownBlock] using e.symm), fun b h => ?_, ?_⟩
          · unfold OwnL
            rw [List.length_append, List.map_append]
            exact HO6.out
          · by_cases hjl : j < cs.length
            · rw [List.getElem?_append_left hjl] at hj
              exact HRP.out j r hj
            · rw [List.getElem?_append_right (by omega)] at hj
              obtain ⟨hz, hj⟩ := List.getElem?_eq_some_iff.1 hj
              have hz2 : j - cs.length = 0 := by simpa using hz
              have hji : j = i := by have := HCS.out; omega
              subst hji
              simp only [hz2, List.getElem_cons_zero] at hj
              subst hj
              exact HRR.out
          · rcases h with h | rfl
            · exact .inl h
            · rcases HAT6.out with g | g
              · exact .inl (HVY.out _ g)
              · exact .inr (Nat.le_of_eq g.symm)
          · rcases h with h | rfl
            · exact Nat.lt_of_lt_of_le (hca.hX b h) HG6.out.size
            · exact HLT6.out
          · rcases h with h | rfl
            · exact HY.out b h
            · exact (HO6.out.lt b rfl).1
          · exact Below.grown (HB5.out.alloc HB5.out.size _) HG6.out (Nat.le_trans HB5.out.size (by simp)) (own_base_le HO5.out)
def negG (x : Int) : Int := bits .xor .i64 x 1
theorem negG_pos {x : Int} (h0 : 0 ≤ x) (h1 : x < 9223372036854775808) : negG x = if x % 2 = 0 then x + 1 else x - 1 := i64_xor_one x h0 h1
theorem neg_ok (x : Int) (w : World) : Calls Tryz.prog 21 #[.int .i64 x] w fun e w' => e = .returned (.int .i64 (negG x)) ∧ w = w' := by
  go_enter Tryz.func21, Tryz.ntmps21
  go_wp2
  go_ret
  exact ⟨rfl, rfl⟩
theorem low_ok (x : Int) (w : World) : Calls Tryz.prog 23 #[.int .i64 x] w fun e w' => e = .returned (.bool (decide (x < 0))) ∧ w = w' := by
  generalize hq : decide (x < 0) = r
  go_enter Tryz.func23, Tryz.ntmps23
  go_wp2
  go_ret
  exact ⟨rfl, rfl⟩
def lowB (x : Int) : Bool := decide (x < 0)
theorem low_cont {w : World} {B : Option Addr} {zs : List Int} (cap : Nat) (hr : Row w B zs) :
    Calls Tryz.prog 22 #[.slice B zs.length cap, .func (.func 23) #[] #[]] w fun e w' => e = .returned (.bool (zs.any lowB)) ∧ ∃ k, w' = w.drewN k := by
  rcases hr.at_ with h0 | ⟨b, off, hA, hb, hc⟩
  · obtain rfl := List.length_eq_zero_iff.1 h0
    refine (Tryz.slices_ContainsFunc_empty (α := Int) B cap _ w).mono ?_
    rintro e w' ⟨rfl, rfl⟩
    exact ⟨rfl, 0, rfl⟩
  · subst hA
    have hp : PredAt Tryz.prog 23 #[] (Value.int .i64) lowB w := fun W x _ => by
      refine (low_ok x W).mono ?_
      rintro e w' ⟨rfl, rfl⟩
      exact ⟨rfl, 0, rfl⟩
    refine (Tryz.slices_ContainsFunc (Value.int .i64) lowB 23 #[] (enters_of Tryz.func23 (by kernel_rfl) rfl) b off zs.length cap zs w hp (Nat.le_refl _) (by have := hr.len; omega) (fun j hj => by rw [hc j hj, getElem!_pos zs j hj])).mono ?_
    rintro e w' ⟨rfl, k, rfl⟩
    exact ⟨by rw [List.take_length], k, rfl⟩
theorem any_low {c : List Int} : c.any lowB = false ↔ ∀ x ∈ c, 0 ≤ x := by
  rw [List.any_eq_false]
  unfold lowB
  exact ⟨fun h x hx => by have := h x hx; simp at this; exact this, fun h x hx => by have := h x hx; simp; exact this⟩
def LemL (T : List Nd) (c : List Int) : Prop := (∀ x ∈ c, 0 ≤ x) ∧ BadL T (c.map negG)
set_option maxRecDepth 100000 in
set_option maxHeartbeats 2000000 in
theorem lemma_ok {w : World} {A B : Option Addr} {c : Nat} {T : List Nd} {L : List Int} (cap : Nat) (h : Tab w A T) (hc : T.length ≤ c) (hT1 : T.length ≤ 100) (hL1 : L.length ≤ 300) (hr : Row w B L) :
    Calls Tryz.prog 10 #[.agg #[.slice A T.length c], .slice B L.length cap] w (TestIs (LemL T L) w) := by
  obtain ⟨i0, hi, hz0, hz1, hz2⟩ := info_parts int_info
  have HB := Lib.hid (show Below w.heap.size w (w.alloc (.cells #[.slice A T.length c] 33)) from (Below.refl _ w).alloc (Nat.le_refl _) _)
  have HBX := Lib.hid (Blk.new w 33 #[.slice A T.length c])
  have HT := Lib.hid h
  have HR := Lib.hid hr
  have HCap := Lib.hid hc
  clear h hr hc
  go_enter Tryz.func10, Tryz.ntmps10
  go_wp2
  go_loopg [13, 5] L.length (fun g v vo wr => ∃ i : Nat, i + g = L.length ∧ v = .int .i64 i ∧ OwnL wr w.heap.size vo ((L.take i).map negG) ∧ Below w.heap.size w wr ∧ Blk wr w.heap.size 33 #[.slice A T.length c])
  case atStart => exact ⟨0, by omega, rfl, World.ownsRow_nil _ _ _ _, HB.out, HBX.out⟩
  case round =>
    obtain ⟨i, hig, rfl, hown, hb, hbl⟩ := hrel
    have HO := Lib.hid hown
    have HBW := Lib.hid hb
    have HX := Lib.hid hbl
    clear hb hbl
    cases gk with
    | zero =>
      obtain rfl : i = L.length := by omega
      have d1 : decide ((L.length : Int) < L.length) = false := by simp
      have hO2 := HO.out
      rw [List.take_length] at hO2
      have hln : (L.map negG).length = L.length := by simp
      have hn3 : (L.map negG).length ≤ 300 := by omega
      obtain ⟨A2, cap2, hv, hrow, _, _⟩ := hO2.row (by omega)
      subst hv
      have HRow := Lib.hid hrow
      have HN3 := Lib.hid hn3
      clear hown hO2 HO hrow hln hn3
      obtain ⟨r, hr⟩ : ∃ r, L.any lowB = r := ⟨_, rfl⟩
      have HRL := Lib.hid hr
      have KC := Lib.hid (low_cont cap (HR.out.below HBW.out))
      rw [hr] at KC
      have cx := HX.out.cell 0
      have hls := HX.out.lt
      simp only [List.getElem?_toArray, List.getElem?_cons_zero] at cx
      clear hr
      obtain ⟨M, hM⟩ : ∃ M, L.map negG = M := ⟨_, rfl⟩
      have HMM := Lib.hid hM
      rw [hM] at HRow HN3 ⊢
      clear hM
      go_wp2_with fail
      refine KC.out.mono ?_
      rintro e w2 ⟨rfl, kd, rfl⟩
      cases r with
      | true =>
        go_wp2
        go_ret
        exact TestIs.no (fun hl => by have := any_low.2 hl.1; rw [HRL.out] at this; cases this) (below_drewN HBW.out _)
      | false =>
        have HB2 := Lib.hid (below_drewN HBW.out kd)
        have KL := Lib.hid (close_ok cap2 (HT.out.below HB2.out) HCap.out hT1 HN3.out (HRow.out.below (below_drewN (Below.refl _ _) kd)))
        go_wp2_with fail
        refine KL.out.mono ?_
        rintro e w3 ⟨v3, cs, bd, er, rfl, ho3, hb3, hbd, _⟩
        have HB3 := Lib.hid (HB2.out.trans (hb3.mono HB2.out.size))
        have HBD := Lib.hid hbd
        obtain ⟨a3, cp3, rfl⟩ := own_slice ho3
        clear hb3 hbd ho3
        go_wp2
        go_ret
        refine ⟨bd, rfl, ?_, HB3.out⟩
        rw [HBD.out]
        unfold LemL
        rw [HMM.out]
        exact ⟨fun h => ⟨any_low.1 HRL.out, h⟩, fun h => h.2⟩
    | succ gk =>
      have hlt : i < L.length := by omega
      have d1 : decide ((i : Int) < L.length) = true := by simp; omega
      have t1 : (0 : Int) ≤ (i : Int) := by omega
      have t2 : (i : Int) < (L.length : Int) := by omega
      obtain ⟨b, off, hA, hbb, hcell⟩ := (HR.out.below HBW.out).at_.resolve_left (by omega)
      subst hA
      have y0 := hcell i hlt
      have HS := Lib.hid (show (L.take (i + 1)).map negG = (L.take i).map negG ++ [negG L[i]] by rw [List.take_add_one, List.getElem?_eq_getElem hlt, List.map_append]; rfl)
      clear hcell hown
      generalize L[i] = x at *
      obtain ⟨fs, hfs⟩ : ∃ fs, (L.take i).map negG = fs := ⟨_, rfl⟩
      rw [hfs] at HO HS
      have X1 : Hid ((fs.length + 1) * 8 ≤ 140737488355328) := Lib.hid (by
        rw [← hfs, List.length_map, List.length_take]
        omega)
      clear hfs
      go_wp2_with fail
      refine (neg_ok x wr).mono ?_
      rintro e w2 ⟨rfl, rfl⟩
      go_wp2_with (at_builtin; refine list_push _ rfl (.tmp 17) (.tmp 20) 27 rfl w.heap.size 3 i0 (.int .i64 0) 1 8 Tryz.underlying27 hi hz0 hz1 hz2 rfl (by decide) _ fs.length (fs.map (Value.int .i64)) rfl (own_kept HO.out ((Kept.refl (fun _ => False) wr).alloc _) (fun _ _ h => h)) wr.heap.size #[.int .i64 (negG x)] rfl (Blk.new wr _ _) rfl (by intro u hu; rw [List.mem_singleton.1 hu]; rfl) X1.out (by decide) HBW.out.size ?_; intro ga ca w3 ho3 hg3 _ _; have HO3 := Lib.hid ho3; have HB3 := Lib.hid (Below.grown (HBW.out.alloc HBW.out.size _) hg3 (Nat.le_trans HBW.out.size (by simp)) (own_base_le HO.out)); have HX3 := Lib.hid ((HX.out.alloc (.cells #[.int .i64 (negG x)] 3)).grown hg3 (fun e => own_blk_ne HO.out HX.out (by decide) e.symm)); clear ho3 hg3)
      go_roundg gk
      case measure => omega
      case rel =>
        refine ⟨i + 1, by omega, by go_num, ?_, HB3.out, HX3.out⟩
        rw [HS.out]
        unfold OwnL
        rw [List.length_append, List.map_append]
        exact HO3.out
end Go.Proofs.YtkapbdjobfbhhaaGreat

/- The reference's Close. -/
import Derived.Test.YtbgbhfmchpdkcaaEwD
import Derived.Test.YtbgbhfmchpdkcaaEvA
import Derived.Test.YtbgbhfmchpdkcaaEuR
namespace Go.Proofs.Ytbgbhfmchpdkcaa
open Go.RowKit

theorem ris_ok (x : Int) (h0 : 0 ≤ x) (h1 : x < 9223372036854775808) (w : World) : Calls Try.prog 26 #[.int .i64 x] w fun e w' => e = .returned (.bool (x % 2 == 1)) ∧ w = w' := by
  have ha := i64_and_one x h0 h1
  obtain ⟨y, hy⟩ : ∃ y, x % 2 = y := ⟨_, rfl⟩
  rw [hy] at ha ⊢
  clear hy
  go_enter Try.func26, Try.ntmps26
  go_wp2
  go_ret
  exact ⟨rfl, rfl⟩
/-- What some of the literals tell is so by f. -/
def HasL (T : List Nd) (f : Int → Int) (M : List Int) : Prop := ∀ x ∈ M, (x % 2 = 1 → f (x / 2) = f T.length) ∧ (x % 2 = 0 → f (x / 2) = f 0) ∧ ∀ n, x % 2 = 0 → Sided T (x / 2) → T[(x / 2).toNat]? = some n → f n.a0 = f n.a1
theorem HasL.has {T : List Nd} {S : Int → Prop} {f : Int → Int} {M : List Int} (h : HasL T f M) (hm : ∀ x, S x → x ∈ M) : Has T S f :=
  ⟨fun x hx => (h x (hm x hx)).1, fun x hx => (h x (hm x hx)).2.1, fun x n hx h1 h2 h3 => (h x (hm x hx)).2.2 n h1 h2 h3⟩
theorem Has.hasL {T : List Nd} {S : Int → Prop} {f : Int → Int} {M : List Int} (h : Has T S f) (hm : ∀ x ∈ M, S x) : HasL T f M :=
  fun x hx => ⟨h.neg x (hm x hx), h.pos x (hm x hx), fun n h1 h2 h3 => h.side x n (hm x hx) h1 h2 h3⟩
theorem HasL.join {T : List Nd} {S : Int → Prop} {ds M : List Int} (hT : TabOk T) (hL : ∀ x ∈ M, LitMay T x) (ho : RefOk T S ds) (h : HasL T (atC ds) M) (a b : Int) : HasL T (atC (joinC ds a b)) M := by
  have ho' : RefOk T (fun x => x ∈ M ∨ S x) ds := ⟨ho.len, fun i hi => (ho.cg i hi).more fun x hx => .inr hx, ho.low, ho.idem⟩
  intro x hx
  have h2 := hT.len
  have hl := ho.len
  have hin := (hL x hx).in_
  obtain ⟨h3, h4, h5⟩ := h x hx
  refine ⟨fun e => joinC_keeps (by omega) (by omega) (h3 e), fun e => joinC_keeps (by omega) (by omega) (h4 e), fun n e hs hn => joinC_keeps ?_ ?_ (h5 n e hs hn)⟩
  · have := (side_args hT hs hn).1
    omega
  · have := (side_args hT hs hn).2
    omega
theorem HasL.snoc {T : List Nd} {f : Int → Int} {M : List Int} {x : Int} (h : HasL T f M) (h1 : x % 2 = 1 → f (x / 2) = f T.length) (h2 : x % 2 = 0 → f (x / 2) = f 0) (h3 : ∀ n, x % 2 = 0 → Sided T (x / 2) → T[(x / 2).toNat]? = some n → f n.a0 = f n.a1) : HasL T f (M ++ [x]) := fun y hy => by
  rcases List.mem_append.1 hy with hy | hy
  · exact h y hy
  · obtain rfl := List.mem_singleton.1 hy
    exact ⟨h1, h2, h3⟩
theorem start_snoc (n : Nat) : startC (n + 1) = startC n ++ [(n : Int)] := by
  unfold startC
  rw [List.range_succ, List.map_append]
  rfl
theorem startC_len (n : Nat) : (startC n).length = n := by simp [startC]

/-- A literal goes against a row of classes. -/
def AgC (T : List Nd) (d : List Int) (x : Int) : Prop := x % 2 = 1 ∧ Sided T (x / 2) ∧ ∃ n, T[(x / 2).toNat]? = some n ∧ atC d n.a0 = atC d n.a1
set_option maxRecDepth 100000 in
set_option maxHeartbeats 8000000 in
theorem rclose_ok {w : World} {A B : Option Addr} {c : Nat} {T : List Nd} {L : List Int} (cap : Nat) (h : Tab w A T) (hT1 : T.length ≤ 60) (hL1 : L.length ≤ 300) (hr : Row w B L) :
    Calls Try.prog 8 #[.agg #[.slice A T.length c], .slice B L.length cap] w (CloseIs T L w) := by
  obtain ⟨i0, hi, hz0, hz1, hz2⟩ := info_parts int_info
  have HB0 : Hid (Below w.heap.size w (w.alloc (.cells #[.slice A T.length c] 24))) := Lib.hid ((Below.refl _ w).alloc (Nat.le_refl _) _)
  have HX0 := Lib.hid (Blk.new w 24 #[.slice A T.length c])
  have H := Lib.hid h
  have HR := Lib.hid hr
  have HAlt : Hid (∀ a, A = some a → T.length ≠ 0 → a.block < w.heap.size) := Lib.hid fun a e hn => by
    obtain ⟨b, off, e2, hb, _⟩ := h.at_.resolve_left hn
    rw [e] at e2
    injection e2 with e2
    rw [e2]
    exact hb
  clear h hr
  go_enter Try.func8, Try.ntmps8
  go_wp2_with fail
  refine (rmay_ok cap (H.out.below HB0.out) (HR.out.below HB0.out)).mono ?_
  rintro e w1 ⟨r1, rfl, hr1, hb1⟩
  have HR1 := Lib.hid hr1
  have HB1 := Lib.hid (HB0.out.trans (hb1.mono HB0.out.size))
  have HX1 := Lib.hid (HX0.out.below hb1 HX0.out.lt)
  have cx1 := HX1.out.cell 0
  have hl1 := HX1.out.lt
  simp only [List.getElem?_toArray, List.getElem?_cons_zero] at cx1
  clear hr1 hb1
  cases r1 with
  | false =>
    go_wp2_with fail
    go_ret3
    exact CloseIs.no (fun hm => by have := HR1.out.2 hm; cases this) HB1.out
  | true =>
    have HM := Lib.hid (HR1.out.1 rfl)
    go_wp2
    go_loopg [7, 8] (T.length + 1) (fun gk vc vi wr => ∃ i : Nat, i + gk = T.length + 1 ∧ vi = .int .i64 i ∧ wr.ownsRow w1.heap.size 3 1 vc i ((startC i).map (Value.int .i64)) ∧ Below w1.heap.size w1 wr)
    case atStart => exact ⟨0, by omega, rfl, World.ownsRow_nil _ _ _ _, Below.refl _ _⟩
    case round =>
      obtain ⟨i, hig, rfl, hown, hb⟩ := hrel
      have HO := Lib.hid hown
      have HBV := Lib.hid hb
      have HX := Lib.hid (HX1.out.below hb HX1.out.lt)
      have c0 := HX.out.cell 0
      have hls := HX.out.lt
      simp only [List.getElem?_toArray, List.getElem?_cons_zero] at c0
      clear hb cx1 hl1
      cases gk with
      | succ gk =>
        have d1 : decide ((i : Int) ≤ T.length) = true := by simp; omega
        have X1 : Hid ((i + 1) * 8 ≤ 140737488355328) := Lib.hid (by omega)
        clear hown
        go_wp2_with (at_builtin; refine list_push _ rfl (.tmp 28) (.tmp 30) 25 rfl w1.heap.size 3 i0 (.int .i64 0) 1 8 Try.underlying25 hi hz0 hz1 hz2 rfl (by decide) _ i ((startC i).map (Value.int .i64)) rfl (own_kept HO.out ((Kept.refl (fun _ => False) wr).alloc _) (fun _ _ h => h)) wr.heap.size #[.int .i64 (i : Int)] rfl (Blk.new wr _ _) rfl (by intro u hu; rw [List.mem_singleton.1 hu]; rfl) X1.out (by decide) HBV.out.size ?_; intro ga ca w3 ho3 hg3 _ _; have HO3 := Lib.hid ho3; have HV3 := Lib.hid (Below.grown (HBV.out.alloc HBV.out.size _) hg3 (Nat.le_trans HBV.out.size (by simp)) (own_base_le HO.out)); clear ho3 hg3)
        go_roundg gk
        case measure => omega
        case rel =>
          refine ⟨i + 1, by omega, by go_num, ?_, HV3.out⟩
          rw [start_snoc, List.map_append]
          exact HO3.out
      | zero =>
        obtain rfl : i = T.length + 1 := by omega
        have d1 : decide (((T.length + 1 : Nat) : Int) ≤ (T.length : Int)) = false := decide_eq_false (by omega)
        have d2 : decide ((T.length : Int) + 1 ≤ (T.length : Int)) = false := decide_eq_false (by omega)
        obtain ⟨g, cp, hv, hg1, hg2, _⟩ := own_form hown (by omega)
        subst hv
        have HC3 : Hid (Crow wr w1.heap.size g (T.length + 1) cp (startC (T.length + 1))) := Lib.hid ⟨startC_len _, hown⟩
        obtain ⟨w3, rfl⟩ : ∃ x : World, x = wr := ⟨_, rfl⟩
        have HB3 := Lib.hid (HB1.out.trans (HBV.out.mono HB1.out.size))
        clear hown
        go_wp2_with fail
        refine (reuf_ok cap (H.out.below HB3.out) (HR.out.below HB3.out) HM.out).mono ?_
        rintro e w4 ⟨v4, rfl, ho4, hb4⟩
        have HMem : Hid (∀ x, x ∈ eufL T L ↔ told T L x) := Lib.hid fun x => mem_eufL
        have HLM : Hid (∀ x ∈ eufL T L, LitMay T x) := Lib.hid fun x hx => HM.out.2 x (mem_eufL.1 hx).1
        have HML3 : Hid ((eufL T L).length ≤ 300) := Lib.hid (by unfold eufL; exact Nat.le_trans (List.length_filter_le _ _) hL1)
        generalize eufL T L = M at *
        obtain ⟨A5, k5, rfl⟩ := own_slice ho4
        have HO4 := Lib.hid ho4
        have HB4 := Lib.hid (HB3.out.trans (hb4.mono HB3.out.size))
        have HG3 := Lib.hid HC3.out.lt
        have HC4 := Lib.hid (HC3.out.below hb4)
        have HX4 := Lib.hid (HX.out.below hb4 HX.out.lt)
        have HRow : Hid (∀ W, Kept (fun k => k = g) w4 W → Row W A5 M) := Lib.hid fun W hk => by
          have h1 : OwnL W w3.heap.size (.slice A5 M.length k5) M := own_kept HO4.out hk fun g' e hg => by
            have := (HO4.out.lt g' e).1
            have := HG3.out.2
            omega
          obtain ⟨A6, k6, e, hr, _⟩ := h1.row (by have := HML3.out; omega)
          injection e with e
          rw [e]
          exact hr
        have HTab : Hid (∀ W, Kept (fun k => k = g) w4 W → Tab W A T) := Lib.hid fun W hk => (H.out.below HB4.out).keptR (fun a e hs => by
          by_cases h0 : T.length = 0
          · have := HM.out.1.len
            omega
          · have := HAlt.out a e h0
            have := HG3.out.1
            have := HB1.out.size
            omega) hk
        have HAg : Hid (∀ a, A = some a → a.block ≠ g) := Lib.hid fun a e hs => by
          by_cases h0 : T.length = 0
          · have := HM.out.1.len
            omega
          · have := HAlt.out a e h0
            have := HG3.out.1
            have := HB1.out.size
            omega
        have HGX : Hid (¬ w.heap.size = g) := Lib.hid (by
          have := HG3.out.1
          have := HX1.out.lt
          omega)
        have cx4 := HX4.out.cell 0
        have hl4 := HX4.out.lt
        simp only [List.getElem?_toArray, List.getElem?_cons_zero] at cx4
        clear ho4 hb4 c0 hls
        go_wp2
        go_loopg [10] M.length (fun gk vi wr => ∃ (i : Nat) (ds : List Int), i + gk = M.length ∧ vi = .int .i64 i ∧ Crow wr w1.heap.size g (T.length + 1) cp ds ∧ RefOk T (told T L) ds ∧ HasL T (atC ds) (M.take i) ∧ Kept (fun k => k = g) w4 wr)
        case atStart => exact ⟨0, _, by omega, rfl, HC4.out, RefOk.start T _, (fun x hx => by simp at hx), Kept.refl _ _⟩
        case round =>
          obtain ⟨i, ds, hig, rfl, hc, ho, hh, hk⟩ := hrel
          have HC := Lib.hid hc
          have HOk := Lib.hid ho
          have HHas := Lib.hid hh
          have HK := Lib.hid hk
          have HXr := Lib.hid (HX4.out.kept hk HGX.out)
          have cxr := HXr.out.cell 0
          have hlr := HXr.out.lt
          simp only [List.getElem?_toArray, List.getElem?_cons_zero] at cxr
          clear hc ho hh hk cx4 hl4
          cases gk with
          | zero =>
            obtain rfl : i = M.length := by omega
            have d1 : decide ((M.length : Int) < M.length) = false := by simp
            have HHs : Hid (Has T (told T L) (atC ds)) := Lib.hid (by
              have := HHas.out
              rw [List.take_length] at this
              exact this.has fun x hx => (HMem.out x).2 hx)
            have HLt : Hid (∀ x, told T L x → LitMay T x) := Lib.hid fun x hx => HM.out.2 x hx.1
            go_wp2
            go_loopg [] (massC ds + 1) (fun g' wr => ∃ d, Crow wr w1.heap.size g (T.length + 1) cp d ∧ RefOk T (told T L) d ∧ Has T (told T L) (atC d) ∧ massC d + 1 ≤ g' ∧ Kept (fun k => k = g) w4 wr)
            case atStart => exact ⟨ds, HC.out, HOk.out, HHs.out, Nat.le_refl _, HK.out⟩
            case round =>
              obtain ⟨d, hc, ho, hh, hmass, hk⟩ := hrel
              have HCd := Lib.hid hc
              have HOd := Lib.hid ho
              have HHd := Lib.hid hh
              have HKd := Lib.hid hk
              have HXd := Lib.hid (HX4.out.kept hk HGX.out)
              have cxd := HXd.out.cell 0
              have hld := HXd.out.lt
              simp only [List.getElem?_toArray, List.getElem?_cons_zero] at cxd
              clear hc ho hh hk cxr hlr
              cases gk with
              | zero => omega
              | succ gk =>
                have KN := Lib.hid (nots_ok (c := c) (HTab.out wr HKd.out) HAg.out HM.out.1 hT1 HLt.out HCd.out HOd.out HHd.out)
                go_wp2_with fail
                refine KN.out.mono ?_
                rintro e w5 ⟨r, d5, rfl, hc5, hn5, hf5, hk5⟩
                have HC5 := Lib.hid hc5
                have HN5 := Lib.hid hn5
                have HF5 := Lib.hid hf5
                have HK5 := Lib.hid (HKd.out.trans hk5)
                have HX5 := Lib.hid (HXd.out.kept hk5 HGX.out)
                have cx5 := HX5.out.cell 0
                have hl5 := HX5.out.lt
                simp only [List.getElem?_toArray, List.getElem?_cons_zero] at cx5
                clear hc5 hn5 hf5 hk5 cxd hld
                cases r with
                | true =>
                  go_wp2_with fail
                  go_roundg gk
                  case measure => omega
                  case rel => exact ⟨d5, HC5.out, HN5.out.ok, HN5.out.has, by have := HN5.out.less rfl; omega, HK5.out⟩
                | false =>
                  have HF5b := Lib.hid (HF5.out rfl)
                  obtain rfl : d5 = d := HN5.out.same rfl
                  have KA := Lib.hid (apps_ok (c := c) (HTab.out w5 HK5.out) HAg.out HM.out.1 hT1 HLt.out HC5.out HN5.out.ok HN5.out.has)
                  go_wp2_with fail
                  refine KA.out.mono ?_
                  rintro e w6 ⟨r, d6, rfl, hc6, hn6, hf6, hk6⟩
                  have HC6 := Lib.hid hc6
                  have HN6 := Lib.hid hn6
                  have HF6 := Lib.hid hf6
                  have HK6 := Lib.hid (HK5.out.trans hk6)
                  have HX6 := Lib.hid (HX5.out.kept hk6 HGX.out)
                  have cx6 := HX6.out.cell 0
                  have hl6 := HX6.out.lt
                  simp only [List.getElem?_toArray, List.getElem?_cons_zero] at cx6
                  clear hc6 hn6 hf6 hk6 cx5 hl5
                  cases r with
                  | true =>
                    go_wp2_with fail
                    go_roundg gk
                    case measure => omega
                    case rel => exact ⟨d6, HC6.out, HN6.out.ok, HN6.out.has, by have := HN6.out.less rfl; omega, HK6.out⟩
                  | false =>
                    obtain rfl : d6 = d5 := HN6.out.same rfl
                    have HClo : Hid (Clo T (atC d6)) := Lib.hid ⟨fun i n h1 h2 => HF5b.out i n h1 h2, fun i k n m h1 h2 h3 h4 h5 h6 h7 => by
                      rcases Nat.lt_trichotomy i k with h | h | h
                      · exact (HF6.out rfl k i h ⟨m, n, h2, h1, h4, h3, h5.symm, h6.symm, fun j hj => (h7 j (by omega)).symm⟩).symm
                      · rw [h]
                      · exact HF6.out rfl i k h ⟨n, m, h1, h2, h3, h4, h5, h6, h7⟩⟩
                    have HIff : Hid (∀ a b : Int, 0 ≤ a ∧ a < (T.length : Int) + 1 → 0 ≤ b ∧ b < (T.length : Int) + 1 → (atC d6 a = atC d6 b ↔ Cg T (told T L) a b)) := Lib.hid fun a b ha hb => by
                      have hl := HN6.out.ok.len
                      exact HN6.out.ok.iff HN6.out.has HClo.out ⟨ha.1, by omega⟩ ⟨hb.1, by omega⟩
                    have HCl : Hid (Classes T (told T L) d6) := Lib.hid (HN6.out.ok.classes HN6.out.has HClo.out)
                    have y8 : w6.cell? ⟨g, 0, none⟩ = some (.int .i64 (atC d6 0)) := HC6.out.cell (i := 0) (by omega)
                    have y9 : w6.cell? ⟨g, T.length, none⟩ = some (.int .i64 (atC d6 (T.length : Int))) := HC6.out.cell (i := T.length) (by omega)
                    have HZ : Hid (atC d6 0 = atC d6 (T.length : Int) ↔ Cg T (told T L) 0 T.length) := Lib.hid (HIff.out 0 T.length ⟨by omega, by omega⟩ ⟨by omega, by omega⟩)
                    obtain ⟨z1, hz1⟩ : ∃ z1, atC d6 0 = z1 := ⟨_, rfl⟩
                    obtain ⟨z2, hz2⟩ : ∃ z2, atC d6 (T.length : Int) = z2 := ⟨_, rfl⟩
                    rw [hz1] at y8 HZ
                    rw [hz2] at y9 HZ
                    obtain ⟨tb, htb⟩ : ∃ tb, (z1 == z2) = tb := ⟨_, rfl⟩
                    have HTB : Hid (tb = true ↔ Cg T (told T L) 0 T.length) := Lib.hid (by rw [← HZ.out, ← htb]; exact beq_iff_eq)
                    clear hz1 hz2 HZ
                    have s1 : (0 : Int) < (T.length : Int) + 1 := by omega
                    have s2 : (0 : Int) ≤ (T.length : Int) := by omega
                    have s3 : (T.length : Int) < (T.length : Int) + 1 := by omega
                    go_wp2
                    go_quiet (fail)
                    clear y8 y9 htb
                    go_wp2
                    go_loopg [13, 14] M.length (fun gk vb vi wr => ∃ (i : Nat) (bb : Bool), i + gk = M.length ∧ vb = .bool bb ∧ vi = .int .i64 i ∧ (bb = true ↔ Cg T (told T L) 0 T.length ∨ ∃ x ∈ M.take i, AgC T d6 x) ∧ Below w6.heap.size w6 wr)
                    case atStart => exact ⟨0, tb, by omega, rfl, rfl, by rw [HTB.out]; simp, below_drewN (Below.refl _ _) _⟩
                    case round =>
                      obtain ⟨i, bb, hig, rfl, rfl, hbb, hb⟩ := hrel
                      have HBb := Lib.hid hbb
                      have HV := Lib.hid hb
                      have HXv := Lib.hid (HX6.out.below hb HX6.out.lt)
                      have cxv := HXv.out.cell 0
                      have hlv := HXv.out.lt
                      simp only [List.getElem?_toArray, List.getElem?_cons_zero] at cxv
                      clear hbb hb cx6 hl6
                      cases gk with
                      | zero =>
                        obtain rfl : i = M.length := by omega
                        have d1 : decide ((M.length : Int) < M.length) = false := by simp
                        go_wp2
                        go_ret3
                        have hCv := HC6.out.below HV.out
                        have hBv := HB4.out.trans ((HK6.out.then_below HV.out).below (B := w.heap.size) (Nat.le_trans HB4.out.size (Nat.le_refl _)) (fun k hk => by
                          have := HG3.out.1
                          have := HB1.out.size
                          omega))
                        refine ⟨_, d6, bb, 0, rfl, ?_, hBv, ?_, .inl ⟨HM.out, rfl, HCl.out⟩⟩
                        · have h1 := hCv.own
                          rw [← hCv.len] at h1 ⊢
                          exact own_base h1 (fun g' e => by
                            have := (h1.lt g' e).1
                            have := HB1.out.size
                            omega)
                        · rw [HBb.out, List.take_length]
                          unfold BadL Bad
                          constructor
                          · rintro (h | ⟨x, hx, e1, e2, n, e3, e4⟩)
                            · exact ⟨HM.out, .inl h⟩
                            · have hs := side_args HM.out.1 e2 e3
                              exact ⟨HM.out, .inr ⟨x, n, (HMem.out x).1 hx, e1, e2, e3, (HIff.out _ _ hs.1 hs.2).1 e4⟩⟩
                          · rintro ⟨_, h | ⟨x, n, hx, e1, e2, e3, e4⟩⟩
                            · exact .inl h
                            · have hs := side_args HM.out.1 e2 e3
                              exact .inr ⟨x, (HMem.out x).2 hx, e1, e2, n, e3, (HIff.out _ _ hs.1 hs.2).2 e4⟩
                      | succ gk =>
                        have hlt : i < M.length := by omega
                        have hM9 := HML3.out
                        have d1 : decide ((i : Int) < M.length) = true := by simp; omega
                        have t1 : (0 : Int) ≤ (i : Int) := by omega
                        have t2 : (i : Int) < (M.length : Int) := by omega
                        have HKr : Hid (Kept (fun k => k = g) w4 wr) := Lib.hid (HK6.out.then_below HV.out)
                        obtain ⟨b, off, hA, hbb, hcell⟩ := (HRow.out wr HKr.out).at_.resolve_left (by omega)
                        subst hA
                        have y0 := hcell i hlt
                        have HS : Hid (M.take (i + 1) = M.take i ++ [M[i]]) := Lib.hid (by rw [List.take_add_one, List.getElem?_eq_getElem hlt]; rfl)
                        have hxm : M[i] ∈ M := List.getElem_mem hlt
                        have hlm := HLM.out _ hxm
                        clear hcell hxm
                        generalize M[i] = x at *
                        obtain ⟨n, hn, hns, hno, hq1, hq2⟩ := hlm.node
                        have hxl := hlm.1
                        obtain ⟨q, hq⟩ : ∃ q : Nat, x / 2 = q := ⟨(x / 2).toNat, by omega⟩
                        have hqT : q < T.length := by omega
                        have HQ := Lib.hid hq
                        have HN : Hid (T[q]? = some n) := Lib.hid (by rw [hq] at hn; exact hn)
                        have KNd : Hid (∀ W, Calls Try.prog 25 #[.int .i64 x] W fun e w' => e = .returned (.int .i64 (q : Int)) ∧ W = w') := Lib.hid fun W => hq ▸ rnode_ok x W
                        have KId := Lib.hid (fun W => ris_ok x hxl (by omega) W)
                        obtain ⟨tb, htb⟩ : ∃ tb, (x % 2 == 1) = tb := ⟨_, rfl⟩
                        rw [htb] at KId
                        have HTb : Hid (tb = true ↔ x % 2 = 1) := Lib.hid (by rw [← htb]; exact beq_iff_eq)
                        have HTw := Lib.hid (HTab.out wr HKr.out)
                        obtain ⟨kv, hkv⟩ : ∃ kv, kindM T (x / 2) = kv := ⟨_, rfl⟩
                        have HSd : Hid (Sided T (x / 2) ↔ kv = 4 ∨ kv = 5) := Lib.hid (by unfold Sided; rw [hkv])
                        have KKd : Hid (∀ W, Below wr.heap.size wr W → Calls Try.prog 28 #[.agg #[.slice A T.length c], .int .i64 (q : Int)] W fun e w2 => e = .returned (.int .i8 kv) ∧ Below W.heap.size W w2) := Lib.hid fun W hw => by
                          have := rkind_ok (c := c) (HTw.out.below hw) (q : Int)
                          unfold KindIs at this
                          rwa [← hq, hkv, hq] at this
                        clear hlm hn hns hno hq1 hq2 hq htb hkv
                        obtain ⟨b2, off2, hA2, hbb2, hcell2⟩ := HTw.out.at_.resolve_left (by omega)
                        subst hA2
                        have hnq := hcell2 q hqT
                        rw [show T[q] = n from Option.some.inj ((List.getElem?_eq_getElem hqT).symm.trans HN.out)] at hnq
                        have HWf := Lib.hid hnq.wf
                        obtain ⟨n0, n1, n2, n3, n4, n5, n6, n7⟩ := hnq.all
                        have s4 : (0 : Int) ≤ (q : Int) := by omega
                        have s5 : (q : Int) < (T.length : Int) := by omega
                        obtain ⟨wo, rfl⟩ : ∃ x : World, x = wr := ⟨_, rfl⟩
                        have HB0' : Hid (∀ cs : Array Value, Below wo.heap.size wo ((wo.alloc (.cells cs 52)).drew)) := Lib.hid fun cs => below_drewN ((Below.refl _ wo).alloc (Nat.le_refl _) _) 1
                        have HN0' : Hid (NdAt ((wo.alloc (.cells #[.int .i8 n.op, .int .i8 n.len, .int .i64 n.a0, .int .i64 n.a1, .int .i64 n.a2, .int .i64 n.sort, .int .i64 n.fn, .int .i64 n.num] 52)).drew) wo.heap.size 0 n) := Lib.hid (.of_blk (Blk.drew (Blk.new wo _ _)) HWf.out)
                        clear hcell2 hnq
                        go_upto_region 25 with (fail)
                        go_cut [15] from 102 to 151 (fun v15 wc => ∃ p, v15 = .pointer (some ⟨p, 0, none⟩) ∧ NdAt wc p 0 n ∧ Below wo.heap.size wo wc)
                        case first =>
                          go_region_with (go_at_call 25; refine (KNd.out _).mono ?_; rintro e w7 ⟨rfl, rfl⟩)
                          all_goals (go_wp2; go_meet)
                          all_goals exact ⟨_, rfl, HN0'.out, HB0'.out _⟩
                        case rest =>
                          obtain ⟨wm, rfl⟩ : ∃ x : World, x = wc := ⟨_, rfl⟩
                          obtain ⟨p, rfl, hp, hbm⟩ := hcut
                          have HP := Lib.hid hp
                          have HBm := Lib.hid hbm
                          have cxm := (HXv.out.below hbm HXv.out.lt).cell 0
                          have hlm2 := (HXv.out.below hbm HXv.out.lt).lt
                          simp only [List.getElem?_toArray, List.getElem?_cons_zero] at cxm
                          have ym := (hbm.cell (p := ⟨b, off + i, none⟩) hbb).trans y0
                          have hbm2 := Nat.lt_of_lt_of_le hbb hbm.size
                          clear hp hbm n0 n1 n2 n3 n4 n5 n6 n7 cxv hlv
                          go_upto_region 26 with (fail)
                          go_cut [16] from 102 to 151 (fun v16 wc => v16 = .int .i8 kv ∧ Below wm.heap.size wm wc)
                          case first =>
                            go_region_with (first
                              | (go_at_call 28; refine (KKd.out _ (HBm.out.trans ((below_drewN (Below.refl _ wm) 1).mono HBm.out.size))).mono ?_; rintro e w8 ⟨rfl, hb8⟩; have HB8 := Lib.hid hb8; clear hb8)
                              | (go_at_call 25; refine (KNd.out _).mono ?_; rintro e w7 ⟨rfl, rfl⟩))
                            all_goals (go_wp2; go_meet)
                            all_goals exact ⟨rfl, (below_drewN (Below.refl _ wm) 1).trans HB8.out⟩
                          case rest =>
                            obtain ⟨wn, rfl⟩ : ∃ x : World, x = wc := ⟨_, rfl⟩
                            obtain ⟨rfl, hbn⟩ := hcut
                            have HBn := Lib.hid (HBm.out.trans (hbn.mono HBm.out.size))
                            have HPn := Lib.hid (HP.out.below hbn)
                            have HVn := Lib.hid (HV.out.trans (HBn.out.mono HV.out.size))
                            have HCn := Lib.hid (HC6.out.below HVn.out)
                            have HLc := Lib.hid ((HBn.out.cell (p := ⟨b, off + i, none⟩) hbb).trans y0)
                            have hbn2 := Nat.lt_of_lt_of_le hbb HBn.out.size
                            have HL2 := Lib.hid hbn2
                            clear hbn ym y0 cxm hlm2 hbm2 hbn2
                            go_upto_region 27 with (fail)
                            go_cut [151] from 102 to 151 (fun v wc => ∃ ab, v = .bool ab ∧ (ab = true ↔ AgC T d6 x) ∧ Below wn.heap.size wn wc)
                            case first =>
                              cases tb with
                              | false =>
                                have HNo : Hid (¬ AgC T d6 x) := Lib.hid fun h => by have := HTb.out.2 h.1; cases this
                                have HF : Hid (∀ w', Below wn.heap.size wn w' → w'.cell? ⟨b, off + i, none⟩ = some (.int .i64 x) ∧ True ∧ True ∧ True ∧ True) := Lib.hid fun w' hb => ⟨(hb.cell (p := ⟨b, off + i, none⟩) HL2.out).trans HLc.out, trivial, trivial, trivial, trivial⟩
                                refine wp_region_quiet (C := fun w' => Below wn.heap.size wn w') (by kernel_rfl) (by kernel_rfl) (⟨rfl, rfl, rfl, Nat.le_refl _, fun _ _ => rfl⟩) ?_
                                refine QW.lit ?_
                                refine qw_want rfl ?_ (fun w' hw' => ?_) ?_
                                rotate_left
                                · unfold Oper.quietAt
                                  go_simp
                                  exact rfl
                                simp only [Act.put, List.setIfInBounds_toArray, List.set_cons_succ, List.set_cons_zero]
                                refine qw_want rfl ?_ (fun w' hw' => ?_) ?_
                                rotate_left
                                · unfold Oper.quietAt
                                  go_simp
                                  exact rfl
                                simp only [Act.put, List.setIfInBounds_toArray, List.set_cons_succ, List.set_cons_zero]
                                refine qw_want rfl ?_ (fun w' hw' => ?_) ?_
                                rotate_left
                                · unfold Oper.quietAt
                                  go_simp
                                  exact rfl
                                simp only [Act.put, List.setIfInBounds_toArray, List.set_cons_succ, List.set_cons_zero]
                                refine qw_want rfl ?_ (fun w' hw' => ?_) ?_
                                rotate_left
                                · obtain ⟨k0, k1, k2, k3, k4⟩ := HF.out w' hw'
                                  unfold Oper.quietAt
                                  go_simp
                                  exact rfl
                                simp only [Act.put, List.setIfInBounds_toArray, List.set_cons_succ, List.set_cons_zero]
                                refine qw_want rfl (.bool false) (fun w' hw' => ?_) ?_
                                · unfold Oper.quietAt
                                  go_simp
                                  refine (KId.out w').mono ?_
                                  rintro e w2 ⟨rfl, rfl⟩
                                  exact ⟨rfl, hw'⟩
                                simp only [Act.put, List.setIfInBounds_toArray, List.set_cons_succ, List.set_cons_zero]
                                refine qw_want rfl ?_ (fun w' hw' => ?_) ?_
                                rotate_left
                                · unfold Oper.quietAt
                                  go_simp
                                  exact rfl
                                simp only [Act.put, List.setIfInBounds_toArray, List.set_cons_succ, List.set_cons_zero]
                                refine qw_skip (by rfl) ?_
                                simp only [Act.put, List.setIfInBounds_toArray, List.set_cons_succ, List.set_cons_zero]
                                refine qw_skip (by rfl) ?_
                                simp only [Act.put, List.setIfInBounds_toArray, List.set_cons_succ, List.set_cons_zero]
                                refine qw_skip (by rfl) ?_
                                simp only [Act.put, List.setIfInBounds_toArray, List.set_cons_succ, List.set_cons_zero]
                                refine qw_skip (by rfl) ?_
                                simp only [Act.put, List.setIfInBounds_toArray, List.set_cons_succ, List.set_cons_zero]
                                refine qw_skip (by rfl) ?_
                                simp only [Act.put, List.setIfInBounds_toArray, List.set_cons_succ, List.set_cons_zero]
                                refine qw_skip (by rfl) ?_
                                simp only [Act.put, List.setIfInBounds_toArray, List.set_cons_succ, List.set_cons_zero]
                                refine qw_want rfl ?_ (fun w' hw' => ?_) ?_
                                rotate_left
                                · unfold Oper.quietAt
                                  go_simp
                                  exact rfl
                                simp only [Act.put, List.setIfInBounds_toArray, List.set_cons_succ, List.set_cons_zero]
                                refine qw_want rfl ?_ (fun w' hw' => ?_) ?_
                                rotate_left
                                · unfold Oper.quietAt
                                  go_simp
                                  exact rfl
                                simp only [Act.put, List.setIfInBounds_toArray, List.set_cons_succ, List.set_cons_zero]
                                refine qw_skip (by rfl) ?_
                                simp only [Act.put, List.setIfInBounds_toArray, List.set_cons_succ, List.set_cons_zero]
                                refine qw_skip (by rfl) ?_
                                simp only [Act.put, List.setIfInBounds_toArray, List.set_cons_succ, List.set_cons_zero]
                                refine qw_skip (by rfl) ?_
                                simp only [Act.put, List.setIfInBounds_toArray, List.set_cons_succ, List.set_cons_zero]
                                refine qw_skip (by rfl) ?_
                                simp only [Act.put, List.setIfInBounds_toArray, List.set_cons_succ, List.set_cons_zero]
                                refine qw_skip (by rfl) ?_
                                simp only [Act.put, List.setIfInBounds_toArray, List.set_cons_succ, List.set_cons_zero]
                                refine qw_skip (by rfl) ?_
                                simp only [Act.put, List.setIfInBounds_toArray, List.set_cons_succ, List.set_cons_zero]
                                refine qw_skip (by rfl) ?_
                                simp only [Act.put, List.setIfInBounds_toArray, List.set_cons_succ, List.set_cons_zero]
                                refine qw_skip (by rfl) ?_
                                simp only [Act.put, List.setIfInBounds_toArray, List.set_cons_succ, List.set_cons_zero]
                                refine qw_skip (by rfl) ?_
                                simp only [Act.put, List.setIfInBounds_toArray, List.set_cons_succ, List.set_cons_zero]
                                refine qw_skip (by rfl) ?_
                                simp only [Act.put, List.setIfInBounds_toArray, List.set_cons_succ, List.set_cons_zero]
                                refine qw_skip (by rfl) ?_
                                simp only [Act.put, List.setIfInBounds_toArray, List.set_cons_succ, List.set_cons_zero]
                                refine qw_skip (by rfl) ?_
                                simp only [Act.put, List.setIfInBounds_toArray, List.set_cons_succ, List.set_cons_zero]
                                refine qw_skip (by rfl) ?_
                                simp only [Act.put, List.setIfInBounds_toArray, List.set_cons_succ, List.set_cons_zero]
                                refine qw_want rfl ?_ (fun w' hw' => ?_) ?_
                                rotate_left
                                · unfold Oper.quietAt
                                  go_simp
                                  exact rfl
                                simp only [Act.put, List.setIfInBounds_toArray, List.set_cons_succ, List.set_cons_zero]
                                refine qw_end (fun w5 hb5 => ?_)
                                go_wp2
                                go_meet
                                exact ⟨false, rfl, ⟨fun e => (by cases e), fun h => absurd h HNo.out⟩, hb5⟩
                              | true =>
                                by_cases hk : kv = 4 ∨ kv = 5
                                · have HSI : Hid (Sided T (x / 2)) := Lib.hid (HSd.out.2 hk)
                                  have hs := side_args HM.out.1 HSI.out (n := n) (by rw [HQ.out]; exact HN.out)
                                  obtain ⟨av, hav⟩ : ∃ av : Nat, n.a0 = av := ⟨n.a0.toNat, by omega⟩
                                  obtain ⟨bv, hbv⟩ : ∃ bv : Nat, n.a1 = bv := ⟨n.a1.toNat, by omega⟩
                                  have s6 : (0 : Int) ≤ (av : Int) := by omega
                                  have s7 : (av : Int) < (T.length : Int) + 1 := by omega
                                  have s8 : (0 : Int) ≤ (bv : Int) := by omega
                                  have s9 : (bv : Int) < (T.length : Int) + 1 := by omega
                                  have hpl := HPn.out.lt
                                  have hgl := HCn.out.lt.2
                                  have HF : Hid (∀ w', Below wn.heap.size wn w' → w'.cell? ⟨b, off + i, none⟩ = some (.int .i64 x) ∧ w'.cell? ⟨p, 2, none⟩ = some (.int .i64 (av : Int)) ∧ w'.cell? ⟨p, 3, none⟩ = some (.int .i64 (bv : Int)) ∧ w'.cell? ⟨g, av, none⟩ = some (.int .i64 (atC d6 (av : Int))) ∧ w'.cell? ⟨g, bv, none⟩ = some (.int .i64 (atC d6 (bv : Int)))) := Lib.hid fun w' hb => by
                                    have h1 := (HPn.out.below hb).all
                                    simp only [Nat.zero_add] at h1
                                    rw [hav, hbv] at h1
                                    exact ⟨(hb.cell (p := ⟨b, off + i, none⟩) HL2.out).trans HLc.out, h1.2.2.1, h1.2.2.2.1, (HCn.out.below hb).cell (i := av) (by omega), (HCn.out.below hb).cell (i := bv) (by omega)⟩
                                  have HAg2 : Hid (AgC T d6 x ↔ atC d6 (av : Int) = atC d6 (bv : Int)) := Lib.hid (by
                                    rw [← hav, ← hbv]
                                    refine ⟨fun ⟨_, _, m, h1, h2⟩ => ?_, fun h => ⟨HTb.out.1 rfl, HSI.out, n, by rw [HQ.out]; exact HN.out, h⟩⟩
                                    rw [HQ.out, Int.toNat_natCast, HN.out] at h1
                                    injection h1 with h1
                                    subst h1
                                    exact h2)
                                  clear hav hbv hs hpl hgl
                                  generalize atC d6 (av : Int) = e1 at *
                                  generalize atC d6 (bv : Int) = e2 at *
                                  obtain ⟨ab, hab⟩ : ∃ ab, (e1 == e2) = ab := ⟨_, rfl⟩
                                  have HAB : Hid (ab = true ↔ AgC T d6 x) := Lib.hid (by rw [HAg2.out, ← hab]; exact beq_iff_eq)
                                  rcases hk with rfl | rfl
                                  · skip
                                    refine wp_region_quiet (C := fun w' => Below wn.heap.size wn w') (by kernel_rfl) (by kernel_rfl) (⟨rfl, rfl, rfl, Nat.le_refl _, fun _ _ => rfl⟩) ?_
                                    refine QW.lit ?_
                                    refine qw_want rfl ?_ (fun w' hw' => ?_) ?_
                                    rotate_left
                                    · unfold Oper.quietAt
                                      go_simp
                                      exact rfl
                                    simp only [Act.put, List.setIfInBounds_toArray, List.set_cons_succ, List.set_cons_zero]
                                    refine qw_want rfl ?_ (fun w' hw' => ?_) ?_
                                    rotate_left
                                    · unfold Oper.quietAt
                                      go_simp
                                      exact rfl
                                    simp only [Act.put, List.setIfInBounds_toArray, List.set_cons_succ, List.set_cons_zero]
                                    refine qw_want rfl ?_ (fun w' hw' => ?_) ?_
                                    rotate_left
                                    · unfold Oper.quietAt
                                      go_simp
                                      exact rfl
                                    simp only [Act.put, List.setIfInBounds_toArray, List.set_cons_succ, List.set_cons_zero]
                                    refine qw_want rfl ?_ (fun w' hw' => ?_) ?_
                                    rotate_left
                                    · obtain ⟨k0, k1, k2, k3, k4⟩ := HF.out w' hw'
                                      unfold Oper.quietAt
                                      go_simp
                                      exact rfl
                                    simp only [Act.put, List.setIfInBounds_toArray, List.set_cons_succ, List.set_cons_zero]
                                    refine qw_want rfl (.bool true) (fun w' hw' => ?_) ?_
                                    · unfold Oper.quietAt
                                      go_simp
                                      refine (KId.out w').mono ?_
                                      rintro e w2 ⟨rfl, rfl⟩
                                      exact ⟨rfl, hw'⟩
                                    simp only [Act.put, List.setIfInBounds_toArray, List.set_cons_succ, List.set_cons_zero]
                                    refine qw_want rfl ?_ (fun w' hw' => ?_) ?_
                                    rotate_left
                                    · unfold Oper.quietAt
                                      go_simp
                                      exact rfl
                                    simp only [Act.put, List.setIfInBounds_toArray, List.set_cons_succ, List.set_cons_zero]
                                    refine qw_want rfl ?_ (fun w' hw' => ?_) ?_
                                    rotate_left
                                    · unfold Oper.quietAt
                                      go_simp
                                      exact rfl
                                    simp only [Act.put, List.setIfInBounds_toArray, List.set_cons_succ, List.set_cons_zero]
                                    refine qw_want rfl ?_ (fun w' hw' => ?_) ?_
                                    rotate_left
                                    · unfold Oper.quietAt
                                      go_simp
                                      exact rfl
                                    simp only [Act.put, List.setIfInBounds_toArray, List.set_cons_succ, List.set_cons_zero]
                                    refine qw_want rfl ?_ (fun w' hw' => ?_) ?_
                                    rotate_left
                                    · unfold Oper.quietAt
                                      go_simp
                                      exact rfl
                                    simp only [Act.put, List.setIfInBounds_toArray, List.set_cons_succ, List.set_cons_zero]
                                    refine qw_skip (by rfl) ?_
                                    simp only [Act.put, List.setIfInBounds_toArray, List.set_cons_succ, List.set_cons_zero]
                                    refine qw_skip (by rfl) ?_
                                    simp only [Act.put, List.setIfInBounds_toArray, List.set_cons_succ, List.set_cons_zero]
                                    refine qw_want rfl ?_ (fun w' hw' => ?_) ?_
                                    rotate_left
                                    · unfold Oper.quietAt
                                      go_simp
                                      exact rfl
                                    simp only [Act.put, List.setIfInBounds_toArray, List.set_cons_succ, List.set_cons_zero]
                                    refine qw_want rfl ?_ (fun w' hw' => ?_) ?_
                                    rotate_left
                                    · unfold Oper.quietAt
                                      go_simp
                                      exact rfl
                                    simp only [Act.put, List.setIfInBounds_toArray, List.set_cons_succ, List.set_cons_zero]
                                    refine qw_want rfl ?_ (fun w' hw' => ?_) ?_
                                    rotate_left
                                    · unfold Oper.quietAt
                                      go_simp
                                      exact rfl
                                    simp only [Act.put, List.setIfInBounds_toArray, List.set_cons_succ, List.set_cons_zero]
                                    refine qw_want rfl ?_ (fun w' hw' => ?_) ?_
                                    rotate_left
                                    · unfold Oper.quietAt
                                      go_simp
                                      exact rfl
                                    simp only [Act.put, List.setIfInBounds_toArray, List.set_cons_succ, List.set_cons_zero]
                                    refine qw_want rfl ?_ (fun w' hw' => ?_) ?_
                                    rotate_left
                                    · unfold Oper.quietAt
                                      go_simp
                                      exact rfl
                                    simp only [Act.put, List.setIfInBounds_toArray, List.set_cons_succ, List.set_cons_zero]
                                    refine qw_want rfl ?_ (fun w' hw' => ?_) ?_
                                    rotate_left
                                    · unfold Oper.quietAt
                                      go_simp
                                      exact rfl
                                    simp only [Act.put, List.setIfInBounds_toArray, List.set_cons_succ, List.set_cons_zero]
                                    refine qw_want rfl ?_ (fun w' hw' => ?_) ?_
                                    rotate_left
                                    · obtain ⟨k0, k1, k2, k3, k4⟩ := HF.out w' hw'
                                      unfold Oper.quietAt
                                      go_simp
                                      exact rfl
                                    simp only [Act.put, List.setIfInBounds_toArray, List.set_cons_succ, List.set_cons_zero]
                                    refine qw_want rfl ?_ (fun w' hw' => ?_) ?_
                                    rotate_left
                                    · unfold Oper.quietAt
                                      go_simp
                                      exact rfl
                                    simp only [Act.put, List.setIfInBounds_toArray, List.set_cons_succ, List.set_cons_zero]
                                    refine qw_want rfl ?_ (fun w' hw' => ?_) ?_
                                    rotate_left
                                    · obtain ⟨k0, k1, k2, k3, k4⟩ := HF.out w' hw'
                                      unfold Oper.quietAt
                                      go_simp
                                      exact rfl
                                    simp only [Act.put, List.setIfInBounds_toArray, List.set_cons_succ, List.set_cons_zero]
                                    refine qw_want rfl ?_ (fun w' hw' => ?_) ?_
                                    rotate_left
                                    · unfold Oper.quietAt
                                      go_simp
                                      exact rfl
                                    simp only [Act.put, List.setIfInBounds_toArray, List.set_cons_succ, List.set_cons_zero]
                                    refine qw_want rfl ?_ (fun w' hw' => ?_) ?_
                                    rotate_left
                                    · unfold Oper.quietAt
                                      go_simp
                                      exact rfl
                                    simp only [Act.put, List.setIfInBounds_toArray, List.set_cons_succ, List.set_cons_zero]
                                    refine qw_want rfl ?_ (fun w' hw' => ?_) ?_
                                    rotate_left
                                    · unfold Oper.quietAt
                                      go_simp
                                      exact rfl
                                    simp only [Act.put, List.setIfInBounds_toArray, List.set_cons_succ, List.set_cons_zero]
                                    refine qw_want rfl ?_ (fun w' hw' => ?_) ?_
                                    rotate_left
                                    · obtain ⟨k0, k1, k2, k3, k4⟩ := HF.out w' hw'
                                      unfold Oper.quietAt
                                      go_simp
                                      exact rfl
                                    simp only [Act.put, List.setIfInBounds_toArray, List.set_cons_succ, List.set_cons_zero]
                                    refine qw_want rfl ?_ (fun w' hw' => ?_) ?_
                                    rotate_left
                                    · unfold Oper.quietAt
                                      go_simp
                                      exact rfl
                                    simp only [Act.put, List.setIfInBounds_toArray, List.set_cons_succ, List.set_cons_zero]
                                    refine qw_want rfl ?_ (fun w' hw' => ?_) ?_
                                    rotate_left
                                    · obtain ⟨k0, k1, k2, k3, k4⟩ := HF.out w' hw'
                                      unfold Oper.quietAt
                                      go_simp
                                      exact rfl
                                    simp only [Act.put, List.setIfInBounds_toArray, List.set_cons_succ, List.set_cons_zero]
                                    refine qw_want rfl ?_ (fun w' hw' => ?_) ?_
                                    rotate_left
                                    · unfold Oper.quietAt
                                      go_simp
                                      exact rfl
                                    simp only [Act.put, List.setIfInBounds_toArray, List.set_cons_succ, List.set_cons_zero]
                                    refine qw_want rfl ?_ (fun w' hw' => ?_) ?_
                                    rotate_left
                                    · unfold Oper.quietAt
                                      go_simp
                                      exact rfl
                                    simp only [Act.put, List.setIfInBounds_toArray, List.set_cons_succ, List.set_cons_zero]
                                    refine qw_end (fun w5 hb5 => ?_)
                                    go_wp2
                                    go_meet
                                    exact ⟨ab, rfl, HAB.out, hb5⟩
                                  · skip
                                    refine wp_region_quiet (C := fun w' => Below wn.heap.size wn w') (by kernel_rfl) (by kernel_rfl) (⟨rfl, rfl, rfl, Nat.le_refl _, fun _ _ => rfl⟩) ?_
                                    refine QW.lit ?_
                                    refine qw_want rfl ?_ (fun w' hw' => ?_) ?_
                                    rotate_left
                                    · unfold Oper.quietAt
                                      go_simp
                                      exact rfl
                                    simp only [Act.put, List.setIfInBounds_toArray, List.set_cons_succ, List.set_cons_zero]
                                    refine qw_want rfl ?_ (fun w' hw' => ?_) ?_
                                    rotate_left
                                    · unfold Oper.quietAt
                                      go_simp
                                      exact rfl
                                    simp only [Act.put, List.setIfInBounds_toArray, List.set_cons_succ, List.set_cons_zero]
                                    refine qw_want rfl ?_ (fun w' hw' => ?_) ?_
                                    rotate_left
                                    · unfold Oper.quietAt
                                      go_simp
                                      exact rfl
                                    simp only [Act.put, List.setIfInBounds_toArray, List.set_cons_succ, List.set_cons_zero]
                                    refine qw_want rfl ?_ (fun w' hw' => ?_) ?_
                                    rotate_left
                                    · obtain ⟨k0, k1, k2, k3, k4⟩ := HF.out w' hw'
                                      unfold Oper.quietAt
                                      go_simp
                                      exact rfl
                                    simp only [Act.put, List.setIfInBounds_toArray, List.set_cons_succ, List.set_cons_zero]
                                    refine qw_want rfl (.bool true) (fun w' hw' => ?_) ?_
                                    · unfold Oper.quietAt
                                      go_simp
                                      refine (KId.out w').mono ?_
                                      rintro e w2 ⟨rfl, rfl⟩
                                      exact ⟨rfl, hw'⟩
                                    simp only [Act.put, List.setIfInBounds_toArray, List.set_cons_succ, List.set_cons_zero]
                                    refine qw_want rfl ?_ (fun w' hw' => ?_) ?_
                                    rotate_left
                                    · unfold Oper.quietAt
                                      go_simp
                                      exact rfl
                                    simp only [Act.put, List.setIfInBounds_toArray, List.set_cons_succ, List.set_cons_zero]
                                    refine qw_want rfl ?_ (fun w' hw' => ?_) ?_
                                    rotate_left
                                    · unfold Oper.quietAt
                                      go_simp
                                      exact rfl
                                    simp only [Act.put, List.setIfInBounds_toArray, List.set_cons_succ, List.set_cons_zero]
                                    refine qw_want rfl ?_ (fun w' hw' => ?_) ?_
                                    rotate_left
                                    · unfold Oper.quietAt
                                      go_simp
                                      exact rfl
                                    simp only [Act.put, List.setIfInBounds_toArray, List.set_cons_succ, List.set_cons_zero]
                                    refine qw_want rfl ?_ (fun w' hw' => ?_) ?_
                                    rotate_left
                                    · unfold Oper.quietAt
                                      go_simp
                                      exact rfl
                                    simp only [Act.put, List.setIfInBounds_toArray, List.set_cons_succ, List.set_cons_zero]
                                    refine qw_want rfl ?_ (fun w' hw' => ?_) ?_
                                    rotate_left
                                    · unfold Oper.quietAt
                                      go_simp
                                      exact rfl
                                    simp only [Act.put, List.setIfInBounds_toArray, List.set_cons_succ, List.set_cons_zero]
                                    refine qw_want rfl ?_ (fun w' hw' => ?_) ?_
                                    rotate_left
                                    · unfold Oper.quietAt
                                      go_simp
                                      exact rfl
                                    simp only [Act.put, List.setIfInBounds_toArray, List.set_cons_succ, List.set_cons_zero]
                                    refine qw_want rfl ?_ (fun w' hw' => ?_) ?_
                                    rotate_left
                                    · unfold Oper.quietAt
                                      go_simp
                                      exact rfl
                                    simp only [Act.put, List.setIfInBounds_toArray, List.set_cons_succ, List.set_cons_zero]
                                    refine qw_want rfl ?_ (fun w' hw' => ?_) ?_
                                    rotate_left
                                    · unfold Oper.quietAt
                                      go_simp
                                      exact rfl
                                    simp only [Act.put, List.setIfInBounds_toArray, List.set_cons_succ, List.set_cons_zero]
                                    refine qw_want rfl ?_ (fun w' hw' => ?_) ?_
                                    rotate_left
                                    · unfold Oper.quietAt
                                      go_simp
                                      exact rfl
                                    simp only [Act.put, List.setIfInBounds_toArray, List.set_cons_succ, List.set_cons_zero]
                                    refine qw_want rfl ?_ (fun w' hw' => ?_) ?_
                                    rotate_left
                                    · unfold Oper.quietAt
                                      go_simp
                                      exact rfl
                                    simp only [Act.put, List.setIfInBounds_toArray, List.set_cons_succ, List.set_cons_zero]
                                    refine qw_want rfl ?_ (fun w' hw' => ?_) ?_
                                    rotate_left
                                    · unfold Oper.quietAt
                                      go_simp
                                      exact rfl
                                    simp only [Act.put, List.setIfInBounds_toArray, List.set_cons_succ, List.set_cons_zero]
                                    refine qw_want rfl ?_ (fun w' hw' => ?_) ?_
                                    rotate_left
                                    · unfold Oper.quietAt
                                      go_simp
                                      exact rfl
                                    simp only [Act.put, List.setIfInBounds_toArray, List.set_cons_succ, List.set_cons_zero]
                                    refine qw_want rfl ?_ (fun w' hw' => ?_) ?_
                                    rotate_left
                                    · obtain ⟨k0, k1, k2, k3, k4⟩ := HF.out w' hw'
                                      unfold Oper.quietAt
                                      go_simp
                                      exact rfl
                                    simp only [Act.put, List.setIfInBounds_toArray, List.set_cons_succ, List.set_cons_zero]
                                    refine qw_want rfl ?_ (fun w' hw' => ?_) ?_
                                    rotate_left
                                    · unfold Oper.quietAt
                                      go_simp
                                      exact rfl
                                    simp only [Act.put, List.setIfInBounds_toArray, List.set_cons_succ, List.set_cons_zero]
                                    refine qw_want rfl ?_ (fun w' hw' => ?_) ?_
                                    rotate_left
                                    · obtain ⟨k0, k1, k2, k3, k4⟩ := HF.out w' hw'
                                      unfold Oper.quietAt
                                      go_simp
                                      exact rfl
                                    simp only [Act.put, List.setIfInBounds_toArray, List.set_cons_succ, List.set_cons_zero]
                                    refine qw_want rfl ?_ (fun w' hw' => ?_) ?_
                                    rotate_left
                                    · unfold Oper.quietAt
                                      go_simp
                                      exact rfl
                                    simp only [Act.put, List.setIfInBounds_toArray, List.set_cons_succ, List.set_cons_zero]
                                    refine qw_want rfl ?_ (fun w' hw' => ?_) ?_
                                    rotate_left
                                    · unfold Oper.quietAt
                                      go_simp
                                      exact rfl
                                    simp only [Act.put, List.setIfInBounds_toArray, List.set_cons_succ, List.set_cons_zero]
                                    refine qw_want rfl ?_ (fun w' hw' => ?_) ?_
                                    rotate_left
                                    · unfold Oper.quietAt
                                      go_simp
                                      exact rfl
                                    simp only [Act.put, List.setIfInBounds_toArray, List.set_cons_succ, List.set_cons_zero]
                                    refine qw_want rfl ?_ (fun w' hw' => ?_) ?_
                                    rotate_left
                                    · obtain ⟨k0, k1, k2, k3, k4⟩ := HF.out w' hw'
                                      unfold Oper.quietAt
                                      go_simp
                                      exact rfl
                                    simp only [Act.put, List.setIfInBounds_toArray, List.set_cons_succ, List.set_cons_zero]
                                    refine qw_want rfl ?_ (fun w' hw' => ?_) ?_
                                    rotate_left
                                    · unfold Oper.quietAt
                                      go_simp
                                      exact rfl
                                    simp only [Act.put, List.setIfInBounds_toArray, List.set_cons_succ, List.set_cons_zero]
                                    refine qw_want rfl ?_ (fun w' hw' => ?_) ?_
                                    rotate_left
                                    · obtain ⟨k0, k1, k2, k3, k4⟩ := HF.out w' hw'
                                      unfold Oper.quietAt
                                      go_simp
                                      exact rfl
                                    simp only [Act.put, List.setIfInBounds_toArray, List.set_cons_succ, List.set_cons_zero]
                                    refine qw_want rfl ?_ (fun w' hw' => ?_) ?_
                                    rotate_left
                                    · unfold Oper.quietAt
                                      go_simp
                                      exact rfl
                                    simp only [Act.put, List.setIfInBounds_toArray, List.set_cons_succ, List.set_cons_zero]
                                    refine qw_want rfl ?_ (fun w' hw' => ?_) ?_
                                    rotate_left
                                    · unfold Oper.quietAt
                                      go_simp
                                      exact rfl
                                    simp only [Act.put, List.setIfInBounds_toArray, List.set_cons_succ, List.set_cons_zero]
                                    refine qw_end (fun w5 hb5 => ?_)
                                    go_wp2
                                    go_meet
                                    exact ⟨ab, rfl, HAB.out, hb5⟩
                                · have b0 : (kv == 4) = false := by simp; omega
                                  have b1 : (kv == 5) = false := by simp; omega
                                  have HNo : Hid (¬ AgC T d6 x) := Lib.hid fun h => hk (HSd.out.1 h.2.1)
                                  have HF : Hid (∀ w', Below wn.heap.size wn w' → w'.cell? ⟨b, off + i, none⟩ = some (.int .i64 x) ∧ True ∧ True ∧ True ∧ True) := Lib.hid fun w' hb => ⟨(hb.cell (p := ⟨b, off + i, none⟩) HL2.out).trans HLc.out, trivial, trivial, trivial, trivial⟩
                                  clear hk
                                  refine wp_region_quiet (C := fun w' => Below wn.heap.size wn w') (by kernel_rfl) (by kernel_rfl) (⟨rfl, rfl, rfl, Nat.le_refl _, fun _ _ => rfl⟩) ?_
                                  refine QW.lit ?_
                                  refine qw_want rfl ?_ (fun w' hw' => ?_) ?_
                                  rotate_left
                                  · unfold Oper.quietAt
                                    go_simp
                                    exact rfl
                                  simp only [Act.put, List.setIfInBounds_toArray, List.set_cons_succ, List.set_cons_zero]
                                  refine qw_want rfl ?_ (fun w' hw' => ?_) ?_
                                  rotate_left
                                  · unfold Oper.quietAt
                                    go_simp
                                    exact rfl
                                  simp only [Act.put, List.setIfInBounds_toArray, List.set_cons_succ, List.set_cons_zero]
                                  refine qw_want rfl ?_ (fun w' hw' => ?_) ?_
                                  rotate_left
                                  · unfold Oper.quietAt
                                    go_simp
                                    exact rfl
                                  simp only [Act.put, List.setIfInBounds_toArray, List.set_cons_succ, List.set_cons_zero]
                                  refine qw_want rfl ?_ (fun w' hw' => ?_) ?_
                                  rotate_left
                                  · obtain ⟨k0, k1, k2, k3, k4⟩ := HF.out w' hw'
                                    unfold Oper.quietAt
                                    go_simp
                                    exact rfl
                                  simp only [Act.put, List.setIfInBounds_toArray, List.set_cons_succ, List.set_cons_zero]
                                  refine qw_want rfl (.bool true) (fun w' hw' => ?_) ?_
                                  · unfold Oper.quietAt
                                    go_simp
                                    refine (KId.out w').mono ?_
                                    rintro e w2 ⟨rfl, rfl⟩
                                    exact ⟨rfl, hw'⟩
                                  simp only [Act.put, List.setIfInBounds_toArray, List.set_cons_succ, List.set_cons_zero]
                                  refine qw_want rfl ?_ (fun w' hw' => ?_) ?_
                                  rotate_left
                                  · unfold Oper.quietAt
                                    go_simp
                                    exact rfl
                                  simp only [Act.put, List.setIfInBounds_toArray, List.set_cons_succ, List.set_cons_zero]
                                  refine qw_want rfl ?_ (fun w' hw' => ?_) ?_
                                  rotate_left
                                  · unfold Oper.quietAt
                                    go_simp
                                    exact rfl
                                  simp only [Act.put, List.setIfInBounds_toArray, List.set_cons_succ, List.set_cons_zero]
                                  refine qw_want rfl ?_ (fun w' hw' => ?_) ?_
                                  rotate_left
                                  · unfold Oper.quietAt
                                    go_simp
                                    exact rfl
                                  simp only [Act.put, List.setIfInBounds_toArray, List.set_cons_succ, List.set_cons_zero]
                                  refine qw_want rfl ?_ (fun w' hw' => ?_) ?_
                                  rotate_left
                                  · unfold Oper.quietAt
                                    go_simp
                                    exact rfl
                                  simp only [Act.put, List.setIfInBounds_toArray, List.set_cons_succ, List.set_cons_zero]
                                  refine qw_want rfl ?_ (fun w' hw' => ?_) ?_
                                  rotate_left
                                  · unfold Oper.quietAt
                                    go_simp
                                    exact rfl
                                  simp only [Act.put, List.setIfInBounds_toArray, List.set_cons_succ, List.set_cons_zero]
                                  refine qw_want rfl ?_ (fun w' hw' => ?_) ?_
                                  rotate_left
                                  · unfold Oper.quietAt
                                    go_simp
                                    exact rfl
                                  simp only [Act.put, List.setIfInBounds_toArray, List.set_cons_succ, List.set_cons_zero]
                                  refine qw_want rfl ?_ (fun w' hw' => ?_) ?_
                                  rotate_left
                                  · unfold Oper.quietAt
                                    go_simp
                                    exact rfl
                                  simp only [Act.put, List.setIfInBounds_toArray, List.set_cons_succ, List.set_cons_zero]
                                  refine qw_want rfl ?_ (fun w' hw' => ?_) ?_
                                  rotate_left
                                  · unfold Oper.quietAt
                                    go_simp
                                    exact rfl
                                  simp only [Act.put, List.setIfInBounds_toArray, List.set_cons_succ, List.set_cons_zero]
                                  refine qw_want rfl ?_ (fun w' hw' => ?_) ?_
                                  rotate_left
                                  · unfold Oper.quietAt
                                    go_simp
                                    exact rfl
                                  simp only [Act.put, List.setIfInBounds_toArray, List.set_cons_succ, List.set_cons_zero]
                                  refine qw_skip (by rfl) ?_
                                  simp only [Act.put, List.setIfInBounds_toArray, List.set_cons_succ, List.set_cons_zero]
                                  refine qw_skip (by rfl) ?_
                                  simp only [Act.put, List.setIfInBounds_toArray, List.set_cons_succ, List.set_cons_zero]
                                  refine qw_skip (by rfl) ?_
                                  simp only [Act.put, List.setIfInBounds_toArray, List.set_cons_succ, List.set_cons_zero]
                                  refine qw_skip (by rfl) ?_
                                  simp only [Act.put, List.setIfInBounds_toArray, List.set_cons_succ, List.set_cons_zero]
                                  refine qw_skip (by rfl) ?_
                                  simp only [Act.put, List.setIfInBounds_toArray, List.set_cons_succ, List.set_cons_zero]
                                  refine qw_skip (by rfl) ?_
                                  simp only [Act.put, List.setIfInBounds_toArray, List.set_cons_succ, List.set_cons_zero]
                                  refine qw_skip (by rfl) ?_
                                  simp only [Act.put, List.setIfInBounds_toArray, List.set_cons_succ, List.set_cons_zero]
                                  refine qw_skip (by rfl) ?_
                                  simp only [Act.put, List.setIfInBounds_toArray, List.set_cons_succ, List.set_cons_zero]
                                  refine qw_skip (by rfl) ?_
                                  simp only [Act.put, List.setIfInBounds_toArray, List.set_cons_succ, List.set_cons_zero]
                                  refine qw_skip (by rfl) ?_
                                  simp only [Act.put, List.setIfInBounds_toArray, List.set_cons_succ, List.set_cons_zero]
                                  refine qw_skip (by rfl) ?_
                                  simp only [Act.put, List.setIfInBounds_toArray, List.set_cons_succ, List.set_cons_zero]
                                  refine qw_skip (by rfl) ?_
                                  simp only [Act.put, List.setIfInBounds_toArray, List.set_cons_succ, List.set_cons_zero]
                                  refine qw_skip (by rfl) ?_
                                  simp only [Act.put, List.setIfInBounds_toArray, List.set_cons_succ, List.set_cons_zero]
                                  refine qw_want rfl ?_ (fun w' hw' => ?_) ?_
                                  rotate_left
                                  · unfold Oper.quietAt
                                    go_simp
                                    exact rfl
                                  simp only [Act.put, List.setIfInBounds_toArray, List.set_cons_succ, List.set_cons_zero]
                                  refine qw_end (fun w5 hb5 => ?_)
                                  go_wp2
                                  go_meet
                                  exact ⟨false, rfl, ⟨fun e => (by cases e), fun h => absurd h HNo.out⟩, hb5⟩
                            case rest =>
                              obtain ⟨ab, rfl, hab, hbe⟩ := hcut
                              have HAB := Lib.hid hab
                              have HBe := Lib.hid (HVn.out.trans (hbe.mono HVn.out.size))
                              clear hab hbe
                              cases ab with
                              | true =>
                                go_wp2
                                go_roundg gk
                                case measure => omega
                                case rel =>
                                  refine ⟨i + 1, true, by omega, rfl, by go_num, ⟨fun _ => .inr ⟨x, ?_, HAB.out.1 (by first | rfl | trivial)⟩, fun _ => rfl⟩, HBe.out⟩
                                  rw [HS.out]
                                  exact List.mem_append.2 (.inr (List.mem_singleton.2 rfl))
                              | false =>
                                go_wp2
                                go_roundg gk
                                case measure => omega
                                case rel =>
                                  refine ⟨i + 1, bb, by omega, rfl, by go_num, ?_, HBe.out⟩
                                  rw [HBb.out, HS.out]
                                  refine ⟨fun h => h.imp id fun ⟨y, h1, h2⟩ => ⟨y, List.mem_append.2 (.inl h1), h2⟩, fun h => h.imp id fun ⟨y, h1, h2⟩ => ⟨y, ?_, h2⟩⟩
                                  rcases List.mem_append.1 h1 with h1 | h1
                                  · exact h1
                                  · obtain rfl := List.mem_singleton.1 h1
                                    have := HAB.out.2 h2
                                    cases this
          | succ gk =>
            have hlt : i < M.length := by omega
            have hM9 := HML3.out
            have d1 : decide ((i : Int) < M.length) = true := by simp; omega
            have t1 : (0 : Int) ≤ (i : Int) := by omega
            have t2 : (i : Int) < (M.length : Int) := by omega
            obtain ⟨b, off, hA, hbb, hcell⟩ := (HRow.out wr HK.out).at_.resolve_left (by omega)
            subst hA
            have y0 := hcell i hlt
            have HS : Hid (M.take (i + 1) = M.take i ++ [M[i]]) := Lib.hid (by rw [List.take_add_one, List.getElem?_eq_getElem hlt]; rfl)
            have hxm : M[i] ∈ M := List.getElem_mem hlt
            have hlm := HLM.out _ hxm
            have htold := (HMem.out _).1 hxm
            have HLi : Hid (∀ x ∈ M.take i, LitMay T x) := Lib.hid fun x hx => HLM.out x (List.mem_of_mem_take hx)
            clear hcell hxm
            generalize M[i] = x at *
            obtain ⟨n, hn, hns, hno, hq1, hq2⟩ := hlm.node
            have hxl := hlm.1
            obtain ⟨q, hq⟩ : ∃ q : Nat, x / 2 = q := ⟨(x / 2).toNat, by omega⟩
            have hqT : q < T.length := by omega
            have HTo := Lib.hid htold
            have HQ := Lib.hid hq
            have HN : Hid (T[q]? = some n) := Lib.hid (by rw [hq] at hn; exact hn)
            have KN : Hid (∀ W, Calls Try.prog 25 #[.int .i64 x] W fun e w' => e = .returned (.int .i64 (q : Int)) ∧ W = w') := Lib.hid fun W => hq ▸ rnode_ok x W
            have KI := Lib.hid (fun W => ris_ok x hxl (by omega) W)
            obtain ⟨tb, htb⟩ : ∃ tb, (x % 2 == 1) = tb := ⟨_, rfl⟩
            rw [htb] at KI
            have HTB : Hid (tb = true ↔ x % 2 = 1) := Lib.hid (by rw [← htb]; exact beq_iff_eq)
            clear hlm htold hn hns hno hq1 hq2 hq htb
            go_wp2_with fail
            refine (KN.out _).mono ?_
            rintro e w5 ⟨rfl, rfl⟩
            go_wp2_with fail
            refine (KI.out _).mono ?_
            rintro e w5 ⟨rfl, rfl⟩
            cases tb with
            | true =>
              have HP : Hid (x % 2 = 1) := Lib.hid (HTB.out.1 rfl)
              have KJ := Lib.hid (rjoin_ok HC.out (by omega) (a := (q : Int)) (b := (T.length : Int)) ⟨by omega, by omega⟩ ⟨by omega, by omega⟩)
              go_wp2_with fail
              refine KJ.out.mono ?_
              rintro e w6 ⟨r, rfl, hr, hc6, hk6⟩
              have HC6 := Lib.hid hc6
              have HK6 := Lib.hid (HK.out.trans hk6)
              clear hr hc6 hk6
              go_wp2_with fail
              go_roundg gk
              case measure => omega
              case rel =>
                have hl := HOk.out.len
                have g1 : Cg T (told T L) (q : Int) T.length := HQ.out ▸ .neg HTo.out HP.out
                refine ⟨i + 1, _, by omega, by go_num, HC6.out, HOk.out.join ⟨by omega, by omega⟩ ⟨by omega, by omega⟩ g1, ?_, HK6.out⟩
                rw [HS.out]
                refine (HasL.join HM.out.1 HLi.out HOk.out HHas.out _ _).snoc (fun _ => ?_) (fun e => ?_) (fun n e => ?_)
                · rw [HQ.out]
                  exact joinC_joined ⟨by omega, by omega⟩ ⟨by omega, by omega⟩
                · have := HP.out
                  omega
                · have := HP.out
                  omega
            | false =>
              have HP : Hid (x % 2 = 0) := Lib.hid (by
                have h1 : ¬ x % 2 = 1 := fun h => by have := HTB.out.2 h; cases this
                omega)
              have KJ := Lib.hid (rjoin_ok HC.out (by omega) (a := (q : Int)) (b := (0 : Int)) ⟨by omega, by omega⟩ ⟨by omega, by omega⟩)
              go_wp2_with fail
              refine KJ.out.mono ?_
              rintro e w6 ⟨r, rfl, hr, hc6, hk6⟩
              have HC6 := Lib.hid hc6
              have HK6 := Lib.hid (HK.out.trans hk6)
              have HX6 := Lib.hid (HXr.out.kept hk6 HGX.out)
              have hl := HOk.out.len
              have g1 : Cg T (told T L) (q : Int) 0 := HQ.out ▸ .pos HTo.out HP.out
              have HOk6 := Lib.hid (HOk.out.join (a := (q : Int)) (b := 0) ⟨by omega, by omega⟩ ⟨by omega, by omega⟩ g1)
              have HHas6 := Lib.hid (HasL.join HM.out.1 HLi.out HOk.out HHas.out (q : Int) 0)
              have HP6 : Hid (atC (joinC ds q 0) (x / 2) = atC (joinC ds q 0) 0) := Lib.hid (by
                rw [HQ.out]
                exact joinC_joined ⟨by omega, by omega⟩ ⟨by omega, by omega⟩)
              have cx6 := HX6.out.cell 0
              have hl6 := HX6.out.lt
              simp only [List.getElem?_toArray, List.getElem?_cons_zero] at cx6
              clear hr hc6 hk6 hl g1 y0
              generalize joinC ds q 0 = d6 at *
              have KK := Lib.hid (rkind_ok (c := c) (HTab.out w6 HK6.out) (q : Int))
              obtain ⟨kv, hkv⟩ : ∃ kv, kindM T (q : Int) = kv := ⟨_, rfl⟩
              unfold KindIs at KK
              rw [hkv] at KK
              have HKV := Lib.hid hkv
              clear hkv
              go_wp2_with fail
              refine KK.out.mono ?_
              rintro e w7 ⟨rfl, hb7⟩
              have HC7 := Lib.hid (HC6.out.below hb7)
              have HK7 := Lib.hid (HK6.out.then_below hb7)
              have HX7 := Lib.hid (HX6.out.below hb7 HX6.out.lt)
              have cx7 := HX7.out.cell 0
              have hl7 := HX7.out.lt
              simp only [List.getElem?_toArray, List.getElem?_cons_zero] at cx7
              clear hb7 cx6 hl6
              have HSd : Hid (Sided T (x / 2) ↔ kv = 4 ∨ kv = 5) := Lib.hid (by unfold Sided; rw [HQ.out, HKV.out])
              by_cases hk : kv = 4 ∨ kv = 5
              · have HSI : Hid (Sided T (x / 2)) := Lib.hid (HSd.out.2 hk)
                obtain ⟨b2, off2, hA2, hbb2, hcell2⟩ := (HTab.out w7 HK7.out).at_.resolve_left (by omega)
                subst hA2
                have hnq := hcell2 q hqT
                rw [show T[q] = n from Option.some.inj ((List.getElem?_eq_getElem hqT).symm.trans HN.out)] at hnq
                obtain ⟨_, _, y2, y3, _, _, _, _⟩ := hnq.all
                have hr2 := side_args HM.out.1 HSI.out (n := n) (by rw [HQ.out]; exact HN.out)
                have KJ2 := Lib.hid (fun W (hW : Crow W w1.heap.size g (T.length + 1) cp d6) => rjoin_ok hW (by omega) (a := n.a0) (b := n.a1) ⟨hr2.1.1, by omega⟩ ⟨hr2.2.1, by omega⟩)
                have HR2 := Lib.hid hr2
                have HNc : Hid (∀ W, Kept (fun k => k = g) w4 W → W.cell? ⟨b2, off2 + q * 8 + 2, none⟩ = some (.int .i64 n.a0) ∧ W.cell? ⟨b2, off2 + q * 8 + 3, none⟩ = some (.int .i64 n.a1)) := Lib.hid fun W hk => by
                  obtain ⟨b3, off3, e3, _, hcell3⟩ := (HTab.out W hk).at_.resolve_left (by omega)
                  injection e3 with e3
                  injection e3 with e3 e4
                  subst e3 e4
                  have hnq := hcell3 q hqT
                  rw [show T[q] = n from Option.some.inj ((List.getElem?_eq_getElem hqT).symm.trans HN.out)] at hnq
                  obtain ⟨_, _, y2, y3, _, _, _, _⟩ := hnq.all
                  exact ⟨y2, y3⟩
                clear hcell2 hnq hr2
                have s1 : (0 : Int) ≤ (q : Int) := by omega
                have s2 : (q : Int) < (T.length : Int) := by omega
                have HSIDE := Lib.hid (fun (hx : x % 2 = 0) => (Cg.side (T := T) (S := told T L) HTo.out hx HSI.out (n := n) (by rw [HQ.out]; exact HN.out)))
                rcases hk with rfl | rfl
                · go_upto_region 19 with (fail)
                  go_region_held3 (fun w' => w'.cell? ⟨w.heap.size, 0, none⟩ = some (.slice (some ⟨b2, off2, none⟩) T.length c) ∧ w'.cell? ⟨b2, off2 + q * 8 + 2, none⟩ = some (.int .i64 n.a0) ∧ w'.cell? ⟨b2, off2 + q * 8 + 3, none⟩ = some (.int .i64 n.a1)) (go_keep) ((go_at_call 27; refine (KJ2.out _ (HC7.out.kept ((Kept.refl (fun _ => False) w7).drewN 1) (fun h => h))).mono ?_; rintro e w8 ⟨r8, rfl, hr8, hc8, hk8⟩; have HC8 := Lib.hid hc8; have HK8 := Lib.hid ((HK7.out.drewN 1).trans hk8); have cx8 := ((HX7.out.drewN 1).kept hk8 HGX.out).cell 0; simp only [List.getElem?_toArray, List.getElem?_cons_zero] at cx8; obtain ⟨y28, y38⟩ := HNc.out w8 HK8.out; clear hr8 hc8 hk8))
                  clear y28 y38 cx8
                  go_wp2_with fail
                  go_roundg gk
                  case measure => omega
                  case rel =>
                    have hl := HOk6.out.len
                    have ra := HR2.out.1
                    have rb := HR2.out.2
                    have hx2 := (HLM.out x ((HMem.out x).2 HTo.out)).in_
                    refine ⟨i + 1, _, by omega, by go_num, HC8.out, HOk6.out.join ⟨by omega, by omega⟩ ⟨by omega, by omega⟩ (HSIDE.out HP.out), ?_, HK8.out⟩
                    rw [HS.out]
                    refine (HasL.join HM.out.1 HLi.out HOk6.out HHas6.out _ _).snoc (fun e => ?_) (fun _ => ?_) (fun n2 _ _ hn2 => ?_)
                    · have := HP.out
                      omega
                    · exact joinC_keeps ⟨by omega, by omega⟩ ⟨by omega, by omega⟩ HP6.out
                    · have hnn := HN.out
                      rw [HQ.out, Int.toNat_natCast, hnn] at hn2
                      injection hn2 with hn2
                      subst hn2
                      exact joinC_joined ⟨by omega, by omega⟩ ⟨by omega, by omega⟩
                · go_upto_region 19 with (fail)
                  go_region_held3 (fun w' => w'.cell? ⟨w.heap.size, 0, none⟩ = some (.slice (some ⟨b2, off2, none⟩) T.length c) ∧ w'.cell? ⟨b2, off2 + q * 8 + 2, none⟩ = some (.int .i64 n.a0) ∧ w'.cell? ⟨b2, off2 + q * 8 + 3, none⟩ = some (.int .i64 n.a1)) (go_keep) ((go_at_call 27; refine (KJ2.out _ (HC7.out.kept ((Kept.refl (fun _ => False) w7).drewN 1) (fun h => h))).mono ?_; rintro e w8 ⟨r8, rfl, hr8, hc8, hk8⟩; have HC8 := Lib.hid hc8; have HK8 := Lib.hid ((HK7.out.drewN 1).trans hk8); have cx8 := ((HX7.out.drewN 1).kept hk8 HGX.out).cell 0; simp only [List.getElem?_toArray, List.getElem?_cons_zero] at cx8; obtain ⟨y28, y38⟩ := HNc.out w8 HK8.out; clear hr8 hc8 hk8))
                  clear y28 y38 cx8
                  go_wp2_with fail
                  go_roundg gk
                  case measure => omega
                  case rel =>
                    have hl := HOk6.out.len
                    have ra := HR2.out.1
                    have rb := HR2.out.2
                    have hx2 := (HLM.out x ((HMem.out x).2 HTo.out)).in_
                    refine ⟨i + 1, _, by omega, by go_num, HC8.out, HOk6.out.join ⟨by omega, by omega⟩ ⟨by omega, by omega⟩ (HSIDE.out HP.out), ?_, HK8.out⟩
                    rw [HS.out]
                    refine (HasL.join HM.out.1 HLi.out HOk6.out HHas6.out _ _).snoc (fun e => ?_) (fun _ => ?_) (fun n2 _ _ hn2 => ?_)
                    · have := HP.out
                      omega
                    · exact joinC_keeps ⟨by omega, by omega⟩ ⟨by omega, by omega⟩ HP6.out
                    · have hnn := HN.out
                      rw [HQ.out, Int.toNat_natCast, hnn] at hn2
                      injection hn2 with hn2
                      subst hn2
                      exact joinC_joined ⟨by omega, by omega⟩ ⟨by omega, by omega⟩
              · have b0 : (kv == 4) = false := by simp; omega
                have b1 : (kv == 5) = false := by simp; omega
                have HNS : Hid (¬ Sided T (x / 2)) := Lib.hid fun h => hk (HSd.out.1 h)
                clear hk
                go_wp2_with fail
                go_roundg gk
                case measure => omega
                case rel =>
                  refine ⟨i + 1, d6, by omega, by go_num, HC7.out, HOk6.out, ?_, HK7.out⟩
                  rw [HS.out]
                  refine HHas6.out.snoc (fun e => ?_) (fun _ => HP6.out) (fun n e hs => absurd hs HNS.out)
                  have := HP.out
                  omega
end Go.Proofs.Ytbgbhfmchpdkcaa

/- ForestFirst's walk. -/
import Derived.Test.YthhnlkbnphiaoaaLawC
namespace Go.Proofs.Ythhnlkbnphiaoaa
open Go.RowKit

section
variable {n : Int} {J : List Jn} {a b : Int}
theorem first_facts (h : joinsM n J a b = true) (r : Int) : joinM n J a b r = J ++ [⟨a, b, r⟩] ∧ a ≠ b ∧ oneM n (J ++ [⟨a, b, r⟩]) a b = true ∧ oneM n (J ++ [⟨a, b, r⟩]) b a = true := by
  have h := of_decide_eq_true h
  have he : Edge (J ++ [⟨a, b, r⟩]) a b r := ⟨⟨a, b, r⟩, by simp, .inl ⟨rfl, rfl, rfl⟩⟩
  have hc := cls_edge _ he
  exact ⟨if_pos h, fun e => h.2.2 (by rw [e]), decide_eq_true ⟨h.1, h.2.1, hc⟩, decide_eq_true ⟨h.2.1, h.1, hc.symm⟩⟩
theorem first_way {r : Int} {rs : List Int} (hJ : Tree (J ++ [⟨a, b, r⟩])) (hab : a ≠ b) (ho : oneM n (J ++ [⟨a, b, r⟩]) a b = true) (h : WayR n (J ++ [⟨a, b, r⟩]) a b rs) : rs = [r] := by
  unfold WayR at h
  rw [if_pos ho] at h
  obtain ⟨ns, hp⟩ := h
  exact hJ.one hp (ns' := [a, b]) (.cons (y := b) ⟨⟨a, b, r⟩, by simp, .inl ⟨rfl, rfl, rfl⟩⟩ (.nil b) (by simpa using hab))
theorem first_way' {r : Int} {rs : List Int} (hJ : Tree (J ++ [⟨a, b, r⟩])) (hab : a ≠ b) (ho : oneM n (J ++ [⟨a, b, r⟩]) b a = true) (h : WayR n (J ++ [⟨a, b, r⟩]) b a rs) : rs = [r] := by
  unfold WayR at h
  rw [if_pos ho] at h
  obtain ⟨ns, hp⟩ := h
  exact hJ.one hp (ns' := [b, a]) (.cons (y := a) ⟨⟨a, b, r⟩, by simp, .inr ⟨rfl, rfl, rfl⟩⟩ (.nil a) (by simpa using fun e => hab e.symm))
theorem first_found {r c d : Int} {rs : List Int} (hn : oneM n J c d = false) (h : WayR n (J ++ [⟨a, b, r⟩]) c d rs) : oneM n (J ++ [⟨a, b, r⟩]) c d = decide (r ∈ rs) := by
  unfold WayR at h
  by_cases ho : oneM n (J ++ [⟨a, b, r⟩]) c d = true
  · rw [if_pos ho] at h
    obtain ⟨ns, hp⟩ := h
    have hd := of_decide_eq_true ho
    have hno : ¬ Path J c d ns rs := fun hq => by
      have : oneM n J c d = true := decide_eq_true ⟨hd.1, hd.2.1, cls_conn hq.conn⟩
      rw [hn] at this
      cases this
    rw [ho]
    symm
    apply decide_eq_true
    rcases hp.parts with hq | ⟨_, _, _, _, rs1, rs2, _, _, _, _, e⟩
    · exact absurd hq hno
    · rw [e]
      exact List.mem_append_right _ (List.mem_cons_self)
  · have hf : oneM n (J ++ [⟨a, b, r⟩]) c d = false := by simpa using ho
    rw [if_neg ho] at h
    rw [hf, h]
    rfl
end
theorem take_found (rs : List Int) (r : Int) (k : Nat) (hk : k < rs.length) : decide (r ∈ rs.take (k + 1)) = (decide (r ∈ rs.take k) || (rs[k] == r)) := by
  rw [List.take_succ_eq_append_getElem hk, Bool.eq_iff_iff]
  simp only [decide_eq_true_eq, List.mem_append, List.mem_singleton, Bool.or_eq_true, beq_iff_eq]
  exact or_congr Iff.rfl eq_comm

set_option maxRecDepth 100000 in
set_option maxHeartbeats 2000000 in
theorem forestFirst_walk (n : Int) (A1 : Option Addr) (l1 c1 : Nat) (f1 : Nat → Act4) (a b c d : Int) (w : World) (_w0 : (Lit.int .i64 n).wf = true) (w1 : IsActs w A1 l1 c1 f1) (_w2 : (Lit.int .i64 a).wf = true) (_w3 : (Lit.int .i64 b).wf = true) (_w4 : (Lit.int .i64 c).wf = true) (_w5 : (Lit.int .i64 d).wf = true) :
    Calls Try.prog 4 #[.int .i64 n, .slice A1 l1 c1, .int .i64 a, .int .i64 b, .int .i64 c, .int .i64 d] w fun e w' => e = .returned (.bool true) ∧ Below w.heap.size w w' := by
  have hl1 : l1 ≤ maxLen := by
    rcases w1 with ⟨_, rfl⟩ | ⟨_, _, h1, h2, _⟩
    · omega
    · omega
  unfold maxLen at hl1
  by_cases hout : 100 < l1 ∨ n < 1 ∨ 40 < n
  · clear w1
    by_cases p1 : 100 < l1
    · have d1 : decide ((100 : Int) < (l1 : Int)) = true := by simp; omega
      clear hout
      go_enter Try.func4, Try.ntmps4
      go_wp2_with (go_at_call 7; refine (wakes_ok _).mono ?_; rintro e w2 ⟨rfl, b2⟩)
      go_ret
      exact ⟨rfl, b2⟩
    have d1 : decide ((100 : Int) < (l1 : Int)) = false := by simp; omega
    by_cases p3 : n < 1
    · have d3 : decide (n < 1) = true := decide_eq_true p3
      clear hout
      go_enter Try.func4, Try.ntmps4
      go_wp2_with (go_at_call 7; refine (wakes_ok _).mono ?_; rintro e w2 ⟨rfl, b2⟩)
      go_ret
      exact ⟨rfl, b2⟩
    have d3 : decide (n < 1) = false := decide_eq_false p3
    have d4 : decide (40 < n) = true := decide_eq_true (by omega)
    clear hout
    go_enter Try.func4, Try.ntmps4
    go_wp2_with (go_at_call 7; refine (wakes_ok _).mono ?_; rintro e w2 ⟨rfl, b2⟩)
    go_ret
    exact ⟨rfl, b2⟩
  have d1 : decide ((100 : Int) < (l1 : Int)) = false := by simp; omega
  have d3 : decide (n < 1) = false := decide_eq_false (by omega)
  have d4 : decide (40 < n) = false := decide_eq_false (by omega)
  have hn : 1 ≤ n ∧ n ≤ 40 := by omega
  have hl : l1 ≤ 100 := by omega
  have W1 := Lib.hid w1
  clear w1 hout
  go_enter Try.func4, Try.ntmps4
  go_wp2_with fail
  refine (behind_ok n hn.1 hn.2 A1 l1 c1 f1 w W1.out hl).mono ?_
  rintro e w5 ⟨bf, bn, bp, lj, N, rfl, hF, hB⟩
  have hJl := behindF_len n f1 l1
  generalize behindF n f1 l1 = J at *
  have HF := Lib.hid hF
  have HB := Lib.hid hB
  clear hF hB W1
  go_wp2_with fail
  refine (way_ok HF.out c d).mono ?_
  rintro e w6 ⟨v1, rs, rfl, hW1, hR1, hb6⟩
  have HF6 := Lib.hid (HF.out.below hb6)
  have HB6 := Lib.hid (below_then HB.out (Nat.le_refl _) hb6)
  have HW1 := Lib.hid hW1
  have HR1 := Lib.hid hR1
  generalize hqq : w5.heap.size = b5 at *
  clear hqq
  obtain ⟨Ap, cp, rfl⟩ := own_slice hR1.1
  clear HF HB hW1 hR1 hb6
  go_wp2_with fail
  refine (joins_ok HF6.out).mono ?_
  rintro e w7 ⟨rfl, rfl⟩
  go_wp2_with fail
  refine (join_ok HF6.out (by omega) a b (-777)).mono ?_
  rintro e w7 ⟨lj7, N7, rfl, hF7, hk7⟩
  have HF7 := Lib.hid hF7
  have HB7 := Lib.hid (HB6.out.trans (hk7.below HB6.out.size))
  have HR7 := Lib.hid (HR1.out.kf hk7)
  clear HF6 HB6 HR1 hF7 hk7
  cases hjo : joinsM n J a b
  case false =>
    have hjm : joinM n J a b (-777) = J := if_neg fun hh => by rw [joinsM, decide_eq_true hh] at hjo; cases hjo
    rw [hjm] at HF7
    by_cases hno : (0 ≤ a ∧ a < n) ∧ (0 ≤ b ∧ b < n)
    · have hje : joinE n a b = 0 := if_pos hno
      have hone : oneM n J a b = true := decide_eq_true ⟨hno.1, hno.2, by
        by_cases hc : cls J a = cls J b
        · exact hc
        · rw [joinsM, decide_eq_true ⟨hno.1, hno.2, hc⟩] at hjo
          cases hjo⟩
      rw [hje]
      clear hjo hjm hno hje
      go_wp2_with fail
      refine (one_ok HF7.out (by omega) a b).mono ?_
      rw [hone]
      rintro e w8 ⟨rfl, hF8, hk8⟩
      have HB8 := Lib.hid (HB7.out.trans ((Kf.of_kept hk8 fun z _ hz => HF7.out.noInt (.inr (.inr (.inl hz)))).below HB7.out.size))
      have HF8 := Lib.hid hF8
      clear hF8 hk8 HF7 HB7 HR7
      go_wp2_with fail
      refine (joins_ok HF8.out).mono ?_
      rintro e w9 ⟨rfl, rfl⟩
      go_wp2_with fail
      refine (wakes_ok _).mono ?_
      rintro e w9 ⟨rfl, hb9⟩
      have HB9 := Lib.hid (below_then HB8.out (Nat.le_refl _) hb9)
      clear hb9
      go_wp2
      go_ret
      exact ⟨rfl, HB9.out⟩
    · have hje : joinE n a b = 2 := if_neg hno
      rw [hje]
      clear hjo hjm hno hje
      go_wp2_with fail
      refine (joins_ok HF7.out).mono ?_
      rintro e w9 ⟨rfl, rfl⟩
      go_wp2_with fail
      refine (wakes_ok _).mono ?_
      rintro e w9 ⟨rfl, hb9⟩
      have HB9 := Lib.hid (below_then HB7.out (Nat.le_refl _) hb9)
      clear hb9
      go_wp2
      go_ret
      exact ⟨rfl, HB9.out⟩
  case true =>
    obtain ⟨hjm, hab, ho1, ho2⟩ := first_facts hjo (-777)
    rw [hjm] at HF7
    have hje : joinE n a b = 0 := if_pos ⟨(of_decide_eq_true hjo).1, (of_decide_eq_true hjo).2.1⟩
    have hlen : (J ++ [(⟨a, b, -777⟩ : Jn)]).length = J.length + 1 := by rw [List.length_append, List.length_singleton]
    have HTr := Lib.hid HF7.out.fine.tree
    have Hlen := Lib.hid hlen
    rw [hje]
    clear hjo hjm hje hlen
    go_wp2_with fail
    refine (way_ok HF7.out a b).mono ?_
    rw [ho1]
    rintro e w8 ⟨v2, ps, rfl, hW2, hR2, hb8⟩
    obtain rfl := first_way HTr.out hab ho1 hW2
    have HF8 := Lib.hid (HF7.out.below hb8)
    have HB8 := Lib.hid (below_then HB7.out (Nat.le_refl _) hb8)
    have HR8 := Lib.hid (HR7.out.below hb8)
    have HP8 := Lib.hid hR2
    obtain ⟨A2, c2, rfl⟩ := own_slice hR2.1
    generalize hqq : w7.heap.size = b7 at *
    clear hqq HF7 HB7 HR7 hW2 hR2 hb8
    go_wp2_with fail
    refine (way_ok HF8.out b a).mono ?_
    rw [ho2]
    rintro e w9 ⟨v3, qs, rfl, hW3, hR3, hb9⟩
    obtain rfl := first_way' HTr.out hab ho2 hW3
    have HF9 := Lib.hid (HF8.out.below hb9)
    have HB9 := Lib.hid (below_then HB8.out (Nat.le_refl _) hb9)
    have HR9 := Lib.hid (HR8.out.below hb9)
    have HP9 := Lib.hid (HP8.out.below hb9)
    have HQ9 := Lib.hid hR3
    obtain ⟨A3, c3, rfl⟩ := own_slice hR3.1
    generalize hqq : w8.heap.size = b8 at *
    clear hqq HF8 HB8 HR8 HP8 hW3 hR3 hb9
    go_wp2_with fail
    have hba : Below w9.heap.size w9 (w9.alloc (.cells #[.int .i64 (-777)] 3)) := (Below.refl _ w9).alloc (Nat.le_refl _) _
    have HFa := Lib.hid (HF9.out.below hba)
    have HBa := Lib.hid (below_then HB9.out (Nat.le_refl _) hba)
    have HRa := Lib.hid (HR9.out.below hba)
    have HPa := Lib.hid (HP9.out.below hba)
    have HQa := Lib.hid (HQ9.out.below hba)
    have HLa := Lib.hid (show RowOf (w9.alloc (.cells #[.int .i64 (-777)] 3)) w9.heap.size (.slice (some ⟨w9.heap.size, 0, none⟩) 1 1) [-777] from
      ⟨⟨rfl, .inr ⟨w9.heap.size, 1, _, rfl, Nat.le_refl _, Blk.new w9 3 #[.int .i64 (-777)], Nat.le_refl _, by unfold maxLen; omega, rfl, rfl⟩⟩, by decide⟩)
    clear hba HF9 HB9 HR9 HP9 HQ9
    refine (same_ok HPa.out HLa.out).mono ?_
    rintro e w10 ⟨rfl, dd, rfl⟩
    go_wp2_with fail
    refine (same_ok (HQa.out.drewN dd) (HPa.out.drewN dd)).mono ?_
    rintro e w10 ⟨rfl, de, rfl⟩
    have hbb : Below (w9.alloc (.cells #[.int .i64 (-777)] 3)).heap.size (w9.alloc (.cells #[.int .i64 (-777)] 3)) (((w9.alloc (.cells #[.int .i64 (-777)] 3)).drewN dd).drewN de) := below_drewN (below_drewN (Below.refl _ _) dd) de
    have HFb := Lib.hid (HFa.out.below hbb)
    have HBb := Lib.hid (below_then HBa.out (Nat.le_refl _) hbb)
    have HRb := Lib.hid (HRa.out.below hbb)
    clear hbb HFa HBa HRa HPa HQa HLa
    generalize ((w9.alloc (.cells #[.int .i64 (-777)] 3)).drewN dd).drewN de = w10 at *
    go_wp2_with fail
    refine (joins_ok HFb.out).mono ?_
    rw [Hlen.out]
    rintro e w11 ⟨rfl, rfl⟩
    go_wp2_with fail
    refine (way_ok HFb.out c d).mono ?_
    rintro e w11 ⟨v4, ss, rfl, hW4, hR4, hb4⟩
    have HBc := Lib.hid (below_then HBb.out (Nat.le_refl _) hb4)
    have HRc := Lib.hid (HRb.out.below hb4)
    have HS := Lib.hid hR4
    obtain ⟨A4, c4, rfl⟩ := own_slice hR4.1
    cases hcd : oneM n J c d
    case true =>
      have hcd2 : oneM n (J ++ [⟨a, b, -777⟩]) c d = true := oneM_mono hcd
      obtain rfl := WayR.more HTr.out hcd HW1.out hW4
      rw [hcd2]
      clear HFb HBb HRb hW4 hR4 hb4 hcd hcd2
      go_wp2_with fail
      refine (same_ok HS.out HRc.out).mono ?_
      rintro e w12 ⟨rfl, df, rfl⟩
      go_wp2_with fail
      refine (wakes_ok _).mono ?_
      rintro e w13 ⟨rfl, hb13⟩
      have HBd := Lib.hid (below_then (below_drewN HBc.out df) (Nat.le_refl _) hb13)
      clear hb13
      go_wp2
      go_ret
      exact ⟨rfl, HBd.out⟩
    case false =>
      have hfd := first_found hcd hW4
      rw [hfd]
      have HC := Lib.hid (show ∀ k (hk : k < ss.length), ∃ g, A4 = some ⟨g, 0, none⟩ ∧ w11.cell? ⟨g, k, none⟩ = some (.int .i64 ss[k]) from fun k hk => by
        obtain ⟨g, cc, e, _⟩ := own_form HS.out.1 (by omega)
        injection e with e _ _
        subst e
        refine ⟨g, rfl, ?_⟩
        have := HS.out.1.cells (g := g) rfl k (.int .i64 ss[k]) (by rw [List.getElem?_map, List.getElem?_eq_getElem hk]; rfl)
        rwa [addr_add] at this)
      have hs4 := hR4.2
      clear HFb HBb HRb hW4 hR4 hb4 hcd hfd
      go_wp2_with fail
      go_loopw [25, 26] (fun f i wr => ∃ k : Nat, k ≤ ss.length ∧ i = .int .i64 k ∧ f = .bool (decide ((-777 : Int) ∈ ss.take k)) ∧ wr = w11) (fun _ i _ => ss.length - (intOf i).toNat)
      case atStart => exact ⟨0, Nat.zero_le _, rfl, by simp, rfl⟩
      case round =>
        obtain ⟨k, hk, rfl, rfl, rfl⟩ := hrel
        by_cases hlt : k < ss.length
        · obtain ⟨g, rfl, ec⟩ := HC.out k hlt
          have htf := take_found ss (-777) k hlt
          generalize decide ((-777 : Int) ∈ ss.take k) = bk at *
          generalize ss[k] = z at *
          have Htf := Lib.hid htf
          clear htf HC
          cases bk
          case true =>
            go_wp2
            exact ⟨⟨k + 1, by omega, by go_num, by rw [Htf.out]; rfl, trivial⟩, by simp [intOf]; omega⟩
          case false =>
            go_wp2
            exact ⟨⟨k + 1, by omega, by go_num, by rw [Htf.out, Bool.false_or], trivial⟩, by simp [intOf]; omega⟩
        · obtain rfl : k = ss.length := by omega
          rw [List.take_length]
          generalize decide ((-777 : Int) ∈ ss) = bk at *
          clear HC
          go_wp2_with fail
          refine (wakes_ok _).mono ?_
          rintro e w13 ⟨rfl, hb13⟩
          have HBd := Lib.hid (below_then HBc.out (Nat.le_refl _) hb13)
          clear hb13
          go_wp2
          go_ret
          exact ⟨rfl, HBd.out⟩
end Go.Proofs.Ythhnlkbnphiaoaa

/- RupMore's walk. -/
import Derived.Test.YthnakfdiikidaaaRupS
namespace Go.Proofs.Ythnakfdiikidaaa
open Go.RowKit Go.Lib

set_option maxRecDepth 100000 in
set_option maxHeartbeats 4000000 in
theorem rupMore_walk (A0 : Option Addr) (l0 c0 : Nat) (A : Nat → Option Addr) (L C : Nat → Nat) (Z : Nat → List Int) (A1 : Option Addr) (l1 c1 : Nat) (A' : Nat → Option Addr) (L' C' : Nat → Nat) (Z' : Nat → List Int) (A2 : Option Addr) (l2 c2 : Nat) (z2 : List Int) (w : World) (w0 : IsGrid w A0 l0 c0 A L C Z) (w1 : IsGrid w A1 l1 c1 A' L' C' Z') (w2 : IsRow .i64 w A2 l2 c2 z2) :
    Calls Try.prog 6 #[.slice A0 l0 c0, .slice A1 l1 c1, .slice A2 l2 c2] w fun e w' => e = .returned (.bool true) ∧ Below w.heap.size w w' := by
  have W0 := Lib.hid w0
  have W1 := Lib.hid w1
  have W2 := Lib.hid w2
  have W3 := Lib.hid (isGrid_one w2)
  have hbd : Below w.heap.size w (w.alloc (.cells #[.slice A2 l2 c2] 28)) := (Below.refl _ w).alloc (Nat.le_refl _) _
  have Hbd := Lib.hid hbd
  have hwk := Lib.hid (fun W => wakes_ok W)
  clear w0 w1 w2 hbd
  go_enter Try.func6, Try.ntmps6
  go_upto_region 3 with (first
    | (go_at_call 7; (with_reducible refine (great15_ok W0.out).mono ?_); rintro e w1 ⟨bb, rfl, rfl, hbb⟩; have HB0 := Lib.hid hbb; clear hbb; cases bb)
    | (go_at_call 7; (with_reducible refine (great15_ok W1.out).mono ?_); rintro e w1 ⟨bb, rfl, rfl, hbb⟩; have HB1 := Lib.hid hbb; clear hbb; cases bb)
    | (go_at_call 7; (with_reducible refine (great15_ok W3.out).mono ?_); rintro e w1 ⟨bb, rfl, hww, hbb⟩; subst hww; have HB2 := Lib.hid hbb; clear hbb; cases bb)
    | (go_at_call 8; refine (hwk.out _).mono ?_; rintro e w9 ⟨rfl, hb9⟩; have HB9 : Hid (Below w.heap.size w w9) := Lib.hid (by first | exact hb9 | exact below_then Hbd.out (Nat.le_refl _) hb9); clear hb9))
  rotate_left
  · go_ret
    exact ⟨rfl, HB9.out⟩
  · go_ret
    exact ⟨rfl, HB9.out⟩
  · go_ret
    exact ⟨rfl, HB9.out⟩
  obtain ⟨R, rfl, hR⟩ := tameG W0.out (HB0.out rfl)
  obtain ⟨S, rfl, hS⟩ := tameG W1.out (HB1.out rfl)
  obtain ⟨cs, rfl, hC⟩ := tameC W2.out (HB2.out rfl)
  clear W0 W1 W2 W3 HB0 HB1 HB2
  have hR80 := hR.r80
  have hS80 := hS.r80
  have hRx : R.length ≤ 1000 := by omega
  have hSx : S.length ≤ 1000 := by omega
  have hRS : R.length + S.length ≤ 1000 := by omega
  have hes : ∀ r ∈ R ++ S, r.2.2.length ≤ 1000 := fun r hr => by
    rcases List.mem_append.1 hr with h | h
    · exact hR.short r h
    · exact hS.short r h
  have hms : ∀ r ∈ R ++ S, ∀ x ∈ r.2.2, x ≤ 9223372036854775807 := fun r hr => by
    rcases List.mem_append.1 hr with h | h
    · exact hR.max r h
    · exact hS.max r h
  obtain ⟨wa, hwa⟩ : ∃ wa, w.alloc (.cells #[.slice A2 cs.length c2] 28) = wa := ⟨_, rfl⟩
  rw [hwa] at Hbd ⊢
  clear hwa hes hms
  have gR := fun W (h : Below wa.heap.size wa W) => (hR.grid.below Hbd.out).below h
  have gS := fun W (h : Below wa.heap.size wa W) => (hS.grid.below Hbd.out).below h
  have gC := fun W (h : Below wa.heap.size wa W) => (hC.row.below Hbd.out).below h
  have hrf := Lib.hid (Below.refl wa.heap.size wa)
  have K1 := follows_ok c0 c2 (gR wa hrf.out) (gC wa hrf.out) hC.big
  have K7 := fun W h => core_ok c0 c2 (gR W h) hRx (gC W h) hC.big
  have hpl := core_len (rowsOf R) cs
  rw [show (rowsOf R).length = R.length from List.length_map _] at hpl
  cases hf : followsM (rowsOf R) cs with
  | false =>
    have hcm : coreM (rowsOf R) cs = [] := by
      unfold coreM
      rw [if_neg (by rw [hf]; simp)]
    rw [hf] at K1
    rw [hcm] at K7
    clear hR hS hC gR gS gC hpl hcm hf
    go_wp2_with (first
      | (go_at_call 13; (with_reducible refine K1.mono ?_); rintro e v1 ⟨rfl, hb⟩; have hrf := Lib.hid (below_then hrf.out (Nat.le_refl _) hb); clear hb)
      | (go_at_call 18; (with_reducible refine (K7 _ hrf.out).mono ?_); rintro e v1 ⟨VA, da, rfl, hra, hb⟩; have hrf := Lib.hid (below_then hrf.out (Nat.le_refl _) hb); clear hb hra)
      | (go_at_call 8; refine (hwk.out _).mono ?_; rintro e w9 ⟨rfl, hb9⟩; have HB9 := Lib.hid (below_then Hbd.out (Nat.le_refl _) (below_then hrf.out (Nat.le_refl _) hb9)); clear hb9))
    go_ret
    exact ⟨rfl, HB9.out⟩
  | true =>
    rw [hf] at K1
    have hcf := core_follows hf
    have hord := core_ord (rowsOf R) cs
    have hlt := core_lt (ls := rowsOf R) (c := cs)
    rw [show (rowsOf R).length = R.length from List.length_map _] at hlt
    have hmf : followsM (rowsOf (S ++ R)) cs = true := follows_more (fun d hd => by rw [rows_append]; exact List.mem_append_right _ hd) hf
    have hcl : ((runM (rowsOf R) (negsM cs)).2 != -1) = true := hf
    rw [← pick_rows] at hcf
    generalize coreM (rowsOf R) cs = ps at *
    have Hcf := Lib.hid hcf
    have Hord := Lib.hid hord
    have Hlt := Lib.hid hlt
    have Hmf := Lib.hid hmf
    have Hcl := Lib.hid hcl
    have HgR := Lib.hid gR
    have HgS := Lib.hid gS
    have HgC := Lib.hid gC
    have HR := Lib.hid hR
    have HS := Lib.hid hS
    have HC := Lib.hid hC
    clear hR hS hC gR gS gC hcf hord hlt hmf hcl hf
    go_wp2_with (first
      | (go_at_call 13; (with_reducible refine K1.mono ?_); rintro e v1 ⟨rfl, hb⟩; have hrf := Lib.hid (below_then hrf.out (Nat.le_refl _) hb); clear hb)
      | (go_at_call 18; (with_reducible refine (K7 _ hrf.out).mono ?_); rintro e w5 ⟨VA, da, rfl, hra, hb⟩; have HRA := Lib.hid hra; have hrf := Lib.hid (below_then hrf.out (Nat.le_refl _) hb); clear hb hra))
    clear K1 K7
    go_loopw [39, 7, 8] (fun vi vs vl wr => ∃ (k : Nat) (last : Int), k ≤ ps.length ∧ vi = .int .i64 k ∧ Gath wr w5.heap.size vs (pickR R (ps.take k)) ∧ vl = .int .i64 last ∧ (∀ i ∈ ps.drop k, last < (i : Int)) ∧ Below w5.heap.size w5 wr) (fun vi _ _ _ => (ps.length - intOf vi).toNat)
    case atStart => exact ⟨0, -1, Nat.zero_le _, rfl, .inl (World.ownsRow_nil _ _ _ _), rfl, fun i _ => by omega, Below.refl _ _⟩
    case round =>
      obtain ⟨k, last, hk, rfl, hga, rfl, hlast, hby⟩ := hrel
      have Hga := Lib.hid hga
      have Hby := Lib.hid hby
      have Hlast := Lib.hid hlast
      have hba : Below wa.heap.size wa wr := below_then hrf.out (Nat.le_refl _) hby
      by_cases hlt : k < ps.length
      · have d1 : decide ((k : Int) < ps.length) = true := by simp; omega
        obtain ⟨pb, poff, hA, hpb, hcell⟩ := (HRA.out.below hby).at_.resolve_left (by rw [List.length_map]; omega)
        subst hA
        have y0 := hcell k (by rw [List.length_map]; exact hlt)
        rw [List.getElem_map] at y0
        have hi := Hlt.out ps[k] (List.getElem_mem hlt)
        obtain ⟨gb, goff, hA, hgb, hrow⟩ := (HgR.out _ hba).at_.resolve_left (by omega)
        subst hA
        have z0 := (hrow ps[k] hi).1
        have hsn := pickR_snoc R ps hlt hi
        have hpk : (pickR R (ps.take k)).length = k := by rw [pickR_len, List.length_take]; omega
        have X2 := Lib.hid (show (pickR R (ps.take k)).length + 1 ≤ 1000000 by omega)
        have Hsn := Lib.hid hsn
        have hl1 : last < (ps[k] : Int) := hlast ps[k] (by rw [List.drop_eq_getElem_cons hlt]; exact List.mem_cons_self)
        have hl2 : ∀ i ∈ ps.drop (k + 1), ((ps[k] : Nat) : Int) < (i : Int) := fun i hi => by
          have h1 := Hord.out.drop (i := k)
          rw [List.drop_eq_getElem_cons hlt] at h1
          have := (List.pairwise_cons.1 h1).1 i hi
          omega
        have Hl2 := Lib.hid hl2
        have t1 : (0 : Int) ≤ (ps[k] : Int) := by omega
        have t2 : (ps[k] : Int) < (R.length : Int) := by omega
        have d2 : decide ((ps[k] : Int) ≤ last) = false := decide_eq_false (by omega)
        have d3 : decide ((R.length : Int) ≤ (ps[k] : Int)) = false := decide_eq_false (by omega)
        clear hcell hrow hga hby hsn hpk hlast hl2 hba
        generalize pickR R (ps.take k) = G at *
        generalize R[ps[k]] = sk at *
        generalize ps[k] = i at *
        go_wp2_with (at_builtin; (refine list_gath _ rfl (.tmp 53) (.tmp 58) 22 rfl w5.heap.size _ G rfl (Hga.out.alloc _) sk wr.heap.size rfl (Blk.new wr _ _) Try.underlying22 X2.out (by have := Hby.out.size; simp; omega) ?_); intro v6 w6 hg6 hb6; have HG6 := Lib.hid hg6; have HB6 := Lib.hid ((Hby.out.alloc Hby.out.size _).trans hb6); clear hg6 hb6)
        go_roundw
        case rel => exact ⟨k + 1, (i : Int), by omega, by go_num, by rw [Hsn.out]; exact HG6.out, rfl, Hl2.out, HB6.out⟩
        case measure => simp only [intOf]; omega
      · obtain rfl : k = ps.length := by omega
        have d1 : decide ((ps.length : Int) < ps.length) = false := by simp
        rw [List.take_length] at hga
        have hsub : ∀ r ∈ pickR R ps, r ∈ R := pickR_mem Hlt.out
        have hpk : (pickR R ps).length = ps.length := pickR_len R ps
        obtain ⟨AA, ca, rfl, hgr⟩ := hga.grid (by omega) (fun r hr => (HgR.out _ hba).each r (hsub r hr))
        have hbx : Below wa.heap.size wa (wr.alloc (.cells #[] 28)) := hba.alloc hba.size _
        have HGS := Lib.hid (HgS.out _ hbx)
        have HE := Lib.hid (own_emptyR wr)
        have HNR := Lib.hid HR.out.nil
        have HNS := Lib.hid HS.out.nil
        have X1 := Lib.hid (show ([] : List (Option Addr × Nat × List Int)).length + S.length ≤ 1000000 by simp; omega)
        have X2 := Lib.hid (show S.length + R.length ≤ 1000000 by omega)
        have hK5 : ∀ W v, Below wa.heap.size wa W → W.ownsRow wr.heap.size 28 1 v (S ++ R).length ((S ++ R).map encR) → ∃ GA gc, v = .slice GA (S ++ R).length gc ∧ Calls Try.prog 13 #[.slice GA (S ++ R).length gc, .slice A2 cs.length c2] W fun e w' => e = .returned (.bool true) ∧ Below W.heap.size W w' := by
          intro W v hb ho
          obtain ⟨GA, gc, rfl, hgr⟩ := Gath.grid (.inl ho) (by rw [List.length_append]; omega) (fun r hr => by
            rcases List.mem_append.1 hr with h5 | h5
            · exact (HgS.out _ hb).each r h5
            · exact (HgR.out _ hb).each r h5)
          have K := follows_ok gc c2 hgr (HgC.out _ hb) HC.out.big
          rw [Hmf.out] at K
          exact ⟨GA, gc, rfl, K⟩
        have K6 := fun W (h : Below wr.heap.size wr W) => follows_ok ca c2 (hgr.below h) (HgC.out _ (below_then hba (Nat.le_refl _) h)) HC.out.big
        rw [Hcf.out] at K6
        have K7 := fun W (h : Below wa.heap.size wa W) => negs17_ok c2 (HgC.out _ h) HC.out.big
        have hnl := negs_len cs
        have hcl20 := HC.out.len
        have K8 := fun W NA nc (h : Below wa.heap.size wa W) (hr : Row .i64 W NA (negsM cs)) => closes16_ok c0 nc (HgR.out _ h) hRx HR.out.short HR.out.max hr (negs_max HC.out.big)
        rw [Hcl.out] at K8
        obtain ⟨T, hT⟩ : ∃ T, S ++ R = T := ⟨_, rfl⟩
        rw [hT] at hK5
        have HT := Lib.hid hT
        have HK5 := Lib.hid hK5
        have Hba := Lib.hid hba
        have Hbx := Lib.hid hbx
        clear hga hby hlast hba hbx hgr hsub hpk hK5 hT
        generalize pickR R ps = G at *
        generalize negsM cs = ng at *
        go_wp2_with (first
          | (at_builtin; refine list_append_rows (wr.alloc (.cells #[] 28)) rfl (.tmp 61) (.tmp 62) rfl wr.heap.size (.slice (some ⟨wr.heap.size, 0, none⟩) 0 0) [] (by rfl) HE.out A1 c1 S (by rfl) HGS.out HNS.out X1.out (by simp) ?_; intro v1 wb ho1 hb1; rw [List.nil_append] at ho1; have HO1 := Lib.hid ho1; have HB1 := Lib.hid hb1; have HBW1 := Lib.hid (Hbx.out.trans (hb1.mono Hba.out.size)); have HGR1 := Lib.hid (HgR.out _ HBW1.out); clear ho1 hb1)
          | (at_builtin; refine list_append_rows wb rfl (.tmp 63) (.tmp 64) rfl wr.heap.size v1 S (by rfl) HO1.out A0 c0 R (by rfl) HGR1.out HNR.out X2.out (Nat.le_trans (by simp) HB1.out.size) ?_; intro v2 wc ho2 hb2; rw [HT.out] at ho2; have HB2 := Lib.hid (HBW1.out.trans (hb2.mono Hba.out.size)); have HBr := Lib.hid (((Below.refl _ wr).alloc (Nat.le_refl _) _).trans (HB1.out.trans hb2)); obtain ⟨GA, gc, rfl, hk6⟩ := HK5.out wc v2 HB2.out ho2; clear ho2 hb2)
          | (go_at_call 13; (with_reducible refine hk6.mono ?_); rintro e wd ⟨rfl, hb⟩; have HBr := Lib.hid (below_then HBr.out (Nat.le_refl _) hb); clear hb)
          | (go_at_call 13; (with_reducible refine (K6 _ HBr.out).mono ?_); rintro e we ⟨rfl, hb⟩; have HBr := Lib.hid (below_then HBr.out (Nat.le_refl _) hb); clear hb)
          | (go_at_call 21; (with_reducible refine (K7 _ (below_then Hba.out (Nat.le_refl _) HBr.out)).mono ?_); rintro e wf ⟨vn, rfl, ho, hb⟩; obtain ⟨NA, nc, rfl, hr, _⟩ := own_row ho rfl (by omega); have HRn := Lib.hid hr; have HBr := Lib.hid (below_then HBr.out (Nat.le_refl _) hb); clear hb ho hr)
          | (go_at_call 20; (with_reducible refine (K8 _ NA nc (below_then Hba.out (Nat.le_refl _) HBr.out) HRn.out).mono ?_); rintro e wg ⟨rfl, hb⟩; have HBr := Lib.hid (below_then HBr.out (Nat.le_refl _) hb); clear hb)
          | (go_at_call 8; refine (hwk.out _).mono ?_; rintro e w9 ⟨rfl, hb9⟩; have HB9 := Lib.hid (below_then Hbd.out (Nat.le_refl _) (below_then Hba.out (Nat.le_refl _) (below_then HBr.out (Nat.le_refl _) hb9))); clear hb9))
        go_ret
        exact ⟨rfl, HB9.out⟩
end Go.Proofs.Ythnakfdiikidaaa

/- resolves. -/
import Derived.Test.YtmbekchnfbmhbaaGreatLrnF
namespace Go.Proofs.YtmbekchnfbmhbaaGreat
open Go.RowKit Go.Lib
open Go.Maps (Keyed)

/-- What resolves leaves. -/
def ResPost (w : World) (B bw bt bm : Nat) (LA : Option Addr) (nl cl : Nat) (M : Tr) (vh : Value) (ch : List Int) (o : Option (List Int × Int)) (e : Ending) (w' : World) : Prop :=
  (o = none ∧ e = .returned (.bool false) ∧ Below w.heap.size w w') ∨
  ∃ r CA' cc' vh', o = some r ∧ e = .returned (.bool true) ∧ WK w' B bw bt bm LA nl cl M CA' cc' r.1 vh' (ch ++ [r.2]) ∧ Kept (fun k => k = bw ∨ vh.ownBlock = some k) w w' ∧ (∀ a, CA' = some a → w.heap.size ≤ a.block)
theorem ResPost.no {w : World} {B bw bt bm : Nat} {LA : Option Addr} {nl cl : Nat} {M : Tr} {vh : Value} {ch : List Int} {o : Option (List Int × Int)} {w' : World} (h : o = none) (hb : Below w.heap.size w w') : ResPost w B bw bt bm LA nl cl M vh ch o (.returned (.bool false)) w' := .inl ⟨h, rfl, hb⟩

theorem mem_take_succ {l : List Int} (put : Int) {i : Nat} (h : i < l.length) : decide (put ∈ l.take (i + 1)) = (decide (put ∈ l.take i) || l[i] == put) := by
  rw [Bool.eq_iff_iff, Bool.or_eq_true, decide_eq_true_iff, decide_eq_true_iff, beq_iff_eq, List.take_succ_eq_append_getElem h, List.mem_append, List.mem_singleton]
  exact or_congr Iff.rfl eq_comm

set_option maxRecDepth 100000 in
set_option maxHeartbeats 4000000 in
theorem resolves_fn {w : World} {B BT bw bt ba bm cl cc kp : Nat} {LA CA : Option Addr} {R : List (Option Addr × Nat × List Int)} {M : Tr} {c ch : List Int} {vh : Value} {put : Int}
    (hw : WK w B bw bt bm LA R.length cl M CA cc c vh ch) (hT : TT w BT bt ba M) (hg : Grid w LA R) (_hR : R.length ≤ 1000000) (he : ∀ r ∈ R, r.2.2.length ≤ 1000) (hmx : ∀ r ∈ R, ∀ x ∈ r.2.2, x ≤ 1000000)
    (hpos : posOf (litsM M) put = some kp) (h0 : 0 ≤ put) (h1 : put ≤ 1000000) (hneg : negM put ∈ c) (hB : B ≤ w.heap.size) (hcl : c.length ≤ 900000) (hch : ch.length ≤ 100000) :
    Calls Tryz.prog 81 #[.pointer (some ⟨bw, 0, none⟩), .int .i64 put] w (ResPost w B bw bt bm LA R.length cl M vh ch (resolvesM M (rowsOf R) kp put c)) := by
  have K1 := fun W (hb : Below w.heap.size w W) => reason_T (hT.below hb) (put / 2)
  have b0 := hw.blk.cell 0
  have b1 := hw.blk.cell 1
  simp only [List.getElem?_toArray, List.getElem?_cons_zero, List.getElem?_cons_succ] at b0 b1
  have hres : resolvesM M (rowsOf R) kp put c = if reasonOf M.L (put / 2) < 0 then none else match (rowsOf R)[(reasonOf M.L (put / 2)).toNat]? with
    | none => none
    | some cl => if isC cl = true then (if mayRes M kp put cl = true then some (resM cl c put, reasonOf M.L (put / 2)) else none) else none := rfl
  have Hw := Lib.hid hw
  have HT := Lib.hid hT
  have Hg := Lib.hid hg
  have He := Lib.hid he
  have Hmx := Lib.hid hmx
  have Hpos := Lib.hid hpos
  have Hneg := Lib.hid hneg
  have hbl := hw.blk.lt
  have hbd : Below w.heap.size w w.drew := below_drewN (Below.refl _ w) 1
  have Hbd := Lib.hid hbd
  clear hw hT hg he hmx hpos hneg hbd
  generalize hr : reasonOf M.L (put / 2) = r at *
  by_cases hr0 : r < 0
  · rw [if_pos hr0] at hres
    have d1 : decide (r < 0) = true := decide_eq_true hr0
    rw [hres]
    clear hr0 hres
    go_enter Tryz.func81, Tryz.ntmps81
    go_wp2
    go_region_held3 (fun w' => w'.cell? ⟨bw, 0, none⟩ = some (.pointer (some ⟨bt, 0, none⟩))) (go_keep)
      (first
        | (go_at_call 67; (with_reducible refine (node_ok put _).mono ?_); rintro e w1 ⟨rfl, rfl⟩)
        | (go_at_call 95; (with_reducible refine (K1 _ Hbd.out).mono ?_); rintro e w2 ⟨rfl, hb2⟩; have z0 := (hb2.cell (p := ⟨bw, 0, none⟩) hbl).trans b0; have HB2 := Lib.hid (Hbd.out.trans hb2); clear hb2))
    go_wp2
    go_ret
    exact ResPost.no rfl HB2.out
  rw [if_neg hr0] at hres
  have d1 : decide (r < 0) = false := decide_eq_false hr0
  obtain ⟨rn, rfl⟩ := Int.eq_ofNat_of_zero_le (show 0 ≤ r by omega)
  rw [Int.toNat_natCast] at hres
  by_cases hrl : R.length ≤ rn
  · rw [List.getElem?_eq_none (by unfold rowsOf; rw [List.length_map]; exact hrl)] at hres
    have d2 : decide (R.length ≤ rn) = true := decide_eq_true hrl
    rw [hres]
    clear hr0 hres hrl
    go_enter Tryz.func81, Tryz.ntmps81
    go_wp2
    go_region_held3 (fun w' => w'.cell? ⟨bw, 0, none⟩ = some (.pointer (some ⟨bt, 0, none⟩))) (go_keep)
      (first
        | (go_at_call 67; (with_reducible refine (node_ok put _).mono ?_); rintro e w1 ⟨rfl, rfl⟩)
        | (go_at_call 95; (with_reducible refine (K1 _ Hbd.out).mono ?_); rintro e w2 ⟨rfl, hb2⟩; have z0 := (hb2.cell (p := ⟨bw, 0, none⟩) hbl).trans b0; have z1 := (hb2.cell (p := ⟨bw, 1, none⟩) hbl).trans b1; have HB2 := Lib.hid (Hbd.out.trans hb2); clear hb2))
    go_wp2
    go_ret
    exact ResPost.no rfl HB2.out
  have hrl : rn < R.length := by omega
  have d2 : decide (R.length ≤ rn) = false := decide_eq_false (by omega)
  rw [List.getElem?_eq_getElem (by unfold rowsOf; rw [List.length_map]; exact hrl), show (rowsOf R)[rn]'(by unfold rowsOf; rw [List.length_map]; exact hrl) = R[rn].2.2 by unfold rowsOf; rw [List.getElem_map]] at hres
  simp only at hres
  obtain ⟨gb, goff, hA, hgb, hcell⟩ := Hg.out.at_.resolve_left (by omega)
  subst hA
  have g0 := (hcell rn hrl).1
  have hrow := (hcell rn hrl).2.1
  have hnil := (hcell rn hrl).2.2
  have t1 : (0 : Int) ≤ (rn : Int) := by omega
  have t2 : (rn : Int) < (R.length : Int) := by omega
  have K2 := fun W (hb : Below w.heap.size w W) => is_ok R[rn].2.1 (hrow.below hb) hnil
  rw [show (R[rn].2.2 == makeM R[rn].2.2) = isC R[rn].2.2 from rfl] at K2
  have hlen := He.out R[rn] (List.getElem_mem hrl)
  have hmxr := Hmx.out R[rn] (List.getElem_mem hrl)
  have Hrow := Lib.hid hrow
  have Hnil := Lib.hid hnil
  have Hmxr := Lib.hid hmxr
  clear hcell hrow hnil hmxr
  generalize R[rn] = sk at *
  obtain ⟨ra, rc, rz⟩ := sk
  simp only at g0 hres K2 hlen Hrow Hnil Hmxr
  cases hic : isC rz with
  | false =>
    rw [hic] at hres K2
    rw [if_neg (by simp)] at hres
    rw [hres]
    clear hres hic
    go_enter Tryz.func81, Tryz.ntmps81
    go_wp2
    go_region_held3 (fun w' => w'.cell? ⟨bw, 0, none⟩ = some (.pointer (some ⟨bt, 0, none⟩))) (go_keep)
      (first
        | (go_at_call 67; (with_reducible refine (node_ok put _).mono ?_); rintro e w1 ⟨rfl, rfl⟩)
        | (go_at_call 95; (with_reducible refine (K1 _ Hbd.out).mono ?_); rintro e w2 ⟨rfl, hb2⟩; have z0 := (hb2.cell (p := ⟨bw, 0, none⟩) hbl).trans b0; have z1 := (hb2.cell (p := ⟨bw, 1, none⟩) hbl).trans b1; have HB2 := Lib.hid (Hbd.out.trans hb2); have z2 := (hb2.cell (p := ⟨gb, goff + rn, none⟩) hgb).trans g0; clear hb2))
    go_wp2_with (go_at_call 28; (with_reducible refine (K2 _ HB2.out).mono ?_); rintro e w3 ⟨rfl, hb3⟩; have HB3 := Lib.hid (below_then HB2.out (Nat.le_refl _) hb3); clear hb3)
    go_ret
    exact ResPost.no rfl HB3.out
  | true =>
    rw [hic] at hres K2
    rw [if_pos rfl] at hres
    have hnn := isC_nonneg hic
    have Hnn := Lib.hid hnn
    obtain ⟨o, ho⟩ : ∃ o, resolvesM M (rowsOf R) kp put c = o := ⟨_, rfl⟩
    rw [ho] at hres ⊢
    have Hres := Lib.hid hres
    clear hic hnn ho hres
    go_enter Tryz.func81, Tryz.ntmps81
    go_wp2
    go_region_held3 (fun w' => w'.cell? ⟨bw, 0, none⟩ = some (.pointer (some ⟨bt, 0, none⟩))) (go_keep)
      (first
        | (go_at_call 67; (with_reducible refine (node_ok put _).mono ?_); rintro e w1 ⟨rfl, rfl⟩)
        | (go_at_call 95; (with_reducible refine (K1 _ Hbd.out).mono ?_); rintro e w2 ⟨rfl, hb2⟩; have z0 := (hb2.cell (p := ⟨bw, 0, none⟩) hbl).trans b0; have z1 := (hb2.cell (p := ⟨bw, 1, none⟩) hbl).trans b1; have HB2 := Lib.hid (Hbd.out.trans hb2); have z2 := (hb2.cell (p := ⟨gb, goff + rn, none⟩) hgb).trans g0; clear hb2))
    go_wp2_with (go_at_call 28; (with_reducible refine (K2 _ HB2.out).mono ?_); rintro e w3 ⟨rfl, hb3⟩; have z3 := (hb3.cell (p := ⟨bw, 1, none⟩) (Nat.lt_of_lt_of_le hbl HB2.out.size)).trans z1; have z4 := (hb3.cell (p := ⟨gb, goff + rn, none⟩) (Nat.lt_of_lt_of_le hgb HB2.out.size)).trans z2; have HB3 := Lib.hid (below_then HB2.out (Nat.le_refl _) hb3); clear hb3)
    have hbw3 : bw < w3.heap.size := Nat.lt_of_lt_of_le hbl HB3.out.size
    go_loopw [48, 6] (fun vi vf wr => ∃ i : Nat, i ≤ rz.length ∧ vi = .int .i64 i ∧ vf = .bool (decide (put ∈ rz.take i)) ∧ ((rz.take i).all fun x => x == put || ahead M kp x) = true ∧ Below w.heap.size w wr) (fun vi _ _ => (rz.length - intOf vi).toNat)
    case atStart => exact ⟨0, Nat.zero_le _, rfl, by simp, rfl, HB3.out⟩
    case round =>
      obtain ⟨i, hi, rfl, rfl, hall, hbel⟩ := hrel
      have Hall := Lib.hid hall
      have Hbel := Lib.hid hbel
      clear hall
      by_cases hlt : i < rz.length
      · have d3 : decide ((i : Int) < rz.length) = true := by simp; omega
        obtain ⟨rb, roff, hA, hrb, hrc⟩ := (Hrow.out.below hbel).at_.resolve_left (by omega)
        subst hA
        have y0 := hrc i hlt
        have hx0 := Hnn.out rz[i] (List.getElem_mem hlt)
        have hx1 := Hmxr.out rz[i] (List.getElem_mem hlt)
        have hmem := mem_take_succ put hlt
        have hallS : ((rz.take (i + 1)).all fun x => x == put || ahead M kp x) = (((rz.take i).all fun x => x == put || ahead M kp x) && (rz[i] == put || ahead M kp rz[i])) := by
          rw [List.take_succ_eq_append_getElem hlt, List.all_append, List.all_cons, List.all_nil, Bool.and_true]
        have hbad : (rz[i] == put || ahead M kp rz[i]) = false → mayRes M kp put rz = false := fun h => by
          unfold mayRes
          have : (rz.all fun x => x == put || ahead M kp x) = false := by
            rw [List.all_eq_false]
            exact ⟨rz[i], List.getElem_mem hlt, by rw [h]; simp⟩
          rw [this]
          rfl
        have hwr := Hw.out.below hbel
        have b2 := hwr.blk.cell 2
        simp only [List.getElem?_toArray, List.getElem?_cons_zero, List.getElem?_cons_succ] at b2
        have hnr : -9223372036854775808 ≤ negM rz[i] ∧ negM rz[i] ≤ 9223372036854775807 := by unfold negM; split <;> omega
        have q1 := pos_look (hwr.at_.drew) (negM rz[i]) hnr.1 hnr.2
        have q2 := pos_look0 (hwr.at_.drew) put (by omega) (by omega)
        rw [show (litsM M).take M.L.length = litsM M by unfold litsM; rw [← List.length_map (f := Pt.lit), List.take_length]] at q1 q2
        rw [Hpos.out] at q2
        simp only [Option.getD_some] at q2
        have Hmem := Lib.hid hmem
        have HallS := Lib.hid hallS
        have Hbad := Lib.hid hbad
        have hah : ahead M kp rz[i] = match posOf (litsM M) (negM rz[i]) with
          | some k => decide (k < kp)
          | none => false := rfl
        have Hah := Lib.hid hah
        have hbd2 : Below w.heap.size w wr.drew := below_drewN hbel 1
        have Hbd2 := Lib.hid hbd2
        clear hrc hmem hallS hbad hwr hah hbel hbd2
        generalize rz[i] = x at *
        by_cases hxp : x = put
        · have d4 : (x == put) = true := by simp [hxp]
          rw [d4] at Hmem HallS
          rw [Bool.or_true] at Hmem
          rw [Bool.true_or, Bool.and_true] at HallS
          clear hxp q1 q2
          go_wp2
          exact ⟨⟨i + 1, by omega, by go_num, by rw [Hmem.out], HallS.out.trans Hall.out, Hbel.out⟩, by simp only [intOf]; omega⟩
        · have d4 : (x == put) = false := by rw [beq_eq_false_iff_ne]; exact hxp
          rw [d4] at Hmem HallS Hbad
          rw [Bool.or_false] at Hmem
          rw [Bool.false_or] at HallS Hbad
          have hxm : x ≤ 9223372036854775807 := by omega
          clear hxp
          cases hp : posOf (litsM M) (negM x) with
          | none =>
            rw [hp] at q1 Hah
            have Hm := Lib.hid (Hbad.out Hah.out)
            simp only [Option.getD_none, Option.isSome_none] at q1
            clear hp
            go_wp2
            go_region_held3 (fun w' => w'.cell? ⟨bw, 2, none⟩ = some (.map (some bm))) (go_keep)
              ((go_at_call 80; (with_reducible refine (neg_ok x hx0 hxm _).mono ?_); rintro e w4 ⟨rfl, rfl⟩))
            go_wp2
            go_ret
            exact ResPost.no (by rw [Hres.out, if_neg (by rw [Hm.out]; simp)]) Hbd2.out
          | some k =>
            rw [hp] at q1 Hah
            simp only [Option.getD_some, Option.isSome_some] at q1
            clear hp
            by_cases hk : k < kp
            · have hah : ahead M kp x = true := by rw [Hah.out]; exact decide_eq_true hk
              have Ha := Lib.hid hah
              have d5 : decide (kp ≤ k) = false := decide_eq_false (by omega)
              have d6 : decide ((kp : Int) ≤ (k : Int)) = false := decide_eq_false (by omega)
              clear hah Hbad Hah
              go_wp2
              go_region_held3 (fun w' => w'.cell? ⟨bw, 2, none⟩ = some (.map (some bm))) (go_keep)
                ((go_at_call 80; (with_reducible refine (neg_ok x hx0 hxm _).mono ?_); rintro e w4 ⟨rfl, rfl⟩))
              go_wp2
              exact ⟨⟨i + 1, by omega, by go_num, by rw [Hmem.out], by rw [HallS.out, Hall.out, Ha.out]; rfl, Hbd2.out⟩, by simp only [intOf]; omega⟩
            · have hah : ahead M kp x = false := by rw [Hah.out]; exact decide_eq_false hk
              have Hm := Lib.hid (Hbad.out hah)
              have d5 : decide (kp ≤ k) = true := decide_eq_true (by omega)
              have d6 : decide ((kp : Int) ≤ (k : Int)) = true := decide_eq_true (by omega)
              clear hah Hbad Hah
              go_wp2
              go_region_held3 (fun w' => w'.cell? ⟨bw, 2, none⟩ = some (.map (some bm))) (go_keep)
                ((go_at_call 80; (with_reducible refine (neg_ok x hx0 hxm _).mono ?_); rintro e w4 ⟨rfl, rfl⟩))
              go_wp2
              go_ret
              exact ResPost.no (by rw [Hres.out, if_neg (by rw [Hm.out]; simp)]) Hbd2.out
      · obtain rfl : i = rz.length := by omega
        have d3 : decide ((rz.length : Int) < rz.length) = false := by simp
        rw [List.take_length] at Hall ⊢
        have hmay : mayRes M kp put rz = decide (put ∈ rz) := by unfold mayRes; rw [Hall.out, Bool.true_and]
        have Hmay := Lib.hid hmay
        have hwr := Hw.out.below hbel
        have HWR := Lib.hid hwr
        have hrow2 := Hrow.out.below hbel
        have HRZ := Lib.hid hrow2
        clear hmay hwr hrow2 hbel Hall
        by_cases hpm : put ∈ rz
        · have d4 : decide (put ∈ rz) = true := decide_eq_true hpm
          rw [d4] at Hmay ⊢
          have Ho := Lib.hid (show o = some (resM rz c put, (rn : Int)) by rw [Hres.out, if_pos Hmay.out])
          have Hcan := Lib.hid (show canM rz c put = true by unfold canM; simp [h0, hpm, Hneg.out])
          clear d4 hpm
          go_upto_region 16 with (fail)
          have hwd : WK wr.drew B bw bt bm (some ⟨gb, goff, none⟩) R.length cl M CA cc c vh ch := HWR.out.below (below_drewN (Below.refl _ wr) 1)
          have KR := resolve_yes rc cc put (by omega) (HRZ.out.below (below_drewN (Below.refl _ wr) 1)) hwd.crow Hcan.out (by omega)
          have c1 := hwd.blk.cell 1
          have c3 := hwd.blk.cell 3
          simp only [List.getElem?_toArray, List.getElem?_cons_zero, List.getElem?_cons_succ] at c1 c3
          have f3 := hwd.blk.frozen 3
          have g1 : wr.drew.cell? ⟨gb, goff + rn, none⟩ = some (.slice ra rz.length rc) := (Hbel.out.cell (p := ⟨gb, goff + rn, none⟩) hgb).trans g0
          have hbw4 : bw < wr.drew.heap.size := hwd.blk.lt
          have HWD := Lib.hid hwd
          clear hwd
          generalize resM rz c put = rs at *
          go_region_with ((go_at_call 96; go_loud (refine KR.mono ?_); rintro e w4 ⟨C, d, rfl, hrC, hnC, hb4, hbC⟩; have HBC := Lib.hid hbC; clear hbC; have c4 := (hb4.cell (p := ⟨bw, 3, none⟩) hbw4).trans c3; have f4 := (HWD.out.blk.below hb4 hbw4).frozen 3; have HRC := Lib.hid hrC; have HNC := Lib.hid hnC; have HB4 := Lib.hid hb4; clear hrC hnC hb4))
          all_goals (
            have hwk5 := ((HWD.out.below HB4.out).set3 (d := d) HRC.out HNC.out (fun a ha e => Nat.lt_irrefl a.block (Nat.lt_of_lt_of_le (show a.block < wr.heap.size from (HWD.out.own.lt _ e).2) (HBC.out a ha))))
            have HWK5 := Lib.hid hwk5
            have v4 := hwk5.blk.cell 4
            simp only [List.getElem?_toArray, List.getElem?_cons_zero, List.getElem?_cons_succ] at v4
            have hne := own_blk_ne hwk5.own hwk5.blk (by decide)
            have Hne := Lib.hid hne
            have hbw4' : bw < w4.heap.size := Nat.lt_of_lt_of_le hbw4 HB4.out.size
            have q45a : Kept (fun k => k = bw ∨ vh.ownBlock = some k) w wr := Kept.of_below Hbel.out
            have q45b : Kept (fun k => k = bw ∨ vh.ownBlock = some k) wr (wr.drewN 1) := Kept.of_below (below_drewN (Below.refl wr.heap.size wr) 1)
            have q45c : Kept (fun k => k = bw ∨ vh.ownBlock = some k) (wr.drewN 1) w4 := Kept.of_below HB4.out
            have HK45 := Lib.hid (show Kept (fun k => k = bw ∨ vh.ownBlock = some k) w (w4.setCell ⟨bw, 3, none⟩ (.slice C rs.length d)) from ((q45a.trans q45b).trans q45c).setCell (.inl (.inl rfl)) _)
            have hB5 : B ≤ (w4.setCell ⟨bw, 3, none⟩ (.slice C rs.length d)).heap.size := Nat.le_trans hB HK45.out.size
            clear q45a q45b q45c
            have hone : ∀ u ∈ [Value.int .i64 (rn : Int)], u.oneCell' = true := by intro u hu; rw [List.mem_singleton.1 hu]; rfl
            have Hone := Lib.hid hone
            have X1 := Lib.hid (show (ch.length + 1) * 8 ≤ 140737488355328 by omega)
            clear hwk5 hne hone KR g1 c1 c3 f3 c4 f4
            generalize w4.setCell ⟨bw, 3, none⟩ (.slice C rs.length d) = w5 at *
            obtain ⟨i0, hi0, hz0, hz1, hz2⟩ := info_parts int_info
            go_wp2_with (at_builtin; go_loud (refine list_push _ rfl (.tmp 103) (.tmp 105) 23 rfl B 3 i0 (.int .i64 0) 1 8 Tryz.underlying23 hi0 hz0 hz1 hz2 rfl (by decide) vh ch.length _ rfl (HWK5.out.own.alloc _) w5.heap.size #[.int .i64 (rn : Int)] rfl (Blk.new w5 _ _) rfl Hone.out X1.out (by decide) hB5 ?_); intro ga ca w6 ho6 hg6 hw6 _; have HP := Lib.hid (HWK5.out.push (rn : Int) ho6 hg6 hw6); have hb6 := (HWK5.out.blk.alloc (.cells #[.int .i64 (rn : Int)] 3)).grown hg6 (fun e => Hne.out e.symm); have v6 := hb6.cell 4; have f6 := hb6.frozen 4; simp only [List.getElem?_toArray, List.getElem?_cons_zero, List.getElem?_cons_succ] at v6; clear ho6 hg6 hw6 hb6)
            go_ret
            exact .inr ⟨(rs, (rn : Int)), C, d, _, Ho.out, rfl, HP.out.1, HK45.out.trans HP.out.2, fun a ha => Nat.le_trans Hbel.out.size (HBC.out a ha)⟩)
        · have d4 : decide (put ∈ rz) = false := decide_eq_false hpm
          rw [d4] at Hmay ⊢
          clear d4 hpm
          go_wp2
          go_ret
          exact ResPost.no (by rw [Hres.out, if_neg (by rw [Hmay.out]; simp)]) Hbel.out
end Go.Proofs.YtmbekchnfbmhbaaGreat

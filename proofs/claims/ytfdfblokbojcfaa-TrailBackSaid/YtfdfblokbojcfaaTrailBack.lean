/- TrailBack's walk. -/
import Derived.Test.YtfdfblokbojcfaaBackLaw
import Derived.Test.YtfdfblokbojcfaaOpen
import Derived.BigQuiet
import Derived.Deep.RegionHeld3
namespace Go.Proofs.Ytfdfblokbojcfaa
open Go.RowKit

theorem IntsFrom.some_of {w : World} {H : Nat} {A : Option Addr} {n cap j : Nat} {l : List Int} {x : Int} (h : IntsFrom w H (.slice A n cap) l) (hx : l[j]? = some x) : ∃ a, A = some a := by
  obtain ⟨-, hc⟩ := h.at_
  obtain ⟨a, ha, _⟩ := hc j (List.getElem?_eq_some_iff.1 hx).1
  exact ⟨a, ha⟩
theorem IntsFrom.cell_to {w w' : World} {B bt ba H : Nat} {a : Addr} {n cap j : Nat} {l : List Int} {x : Int} (h : IntsFrom w H (.slice (some a) n cap) l) (hs : Step B bt ba w w') (h1 : bt < H) (h2 : ba < H) (hx : l[j]? = some x) : w'.cell? (a.add j) = some (.int .i64 x) := by
  obtain ⟨-, hc⟩ := (h.step hs h1 h2).at_
  obtain ⟨hj, hx⟩ := List.getElem?_eq_some_iff.1 hx
  obtain ⟨a', ha, _, hc⟩ := hc j hj
  injection ha with ha
  subst ha
  rw [hc, hx]
theorem TT.hB {w : World} {B bt ba : Nat} {M : Tr} (h : TT w B bt ba M) : B ≤ w.heap.size := by
  obtain ⟨h1, _, h3, _⟩ := h.lt
  omega
theorem Built.nil (n lv : Nat) (h : n = 60) : Built ⟨n, [], lv⟩ := ⟨h, (fun p hp => by cases hp), by simp [Rise], (fun p hp => by cases hp)⟩

set_option maxRecDepth 100000 in
set_option maxHeartbeats 2000000 in
theorem trailBack_walk (A0 : Option Addr) (l0 c0 : Nat) (z0 : List Int) (lev : Int) (w : World) (w0 : IsRow .i64 w A0 l0 c0 z0) (_w1 : (Lit.int .i64 lev).wf = true) :
    Calls Try.prog 5 #[.slice A0 l0 c0, .int .i64 lev] w fun e w' => e = .returned (.bool true) ∧ Below w.heap.size w w' := by
  obtain ⟨i0, hi, hz0, hz1, hz2⟩ := info_parts int_info
  by_cases h100 : 100 < l0
  · have d1 : decide ((100 : Int) < (l0 : Int)) = true := by simp; omega
    have hl0 : l0 ≤ maxLen := by
      rcases w0 with ⟨_, rfl, _⟩ | ⟨_, _, h1, h2, _⟩
      · omega
      · omega
    unfold maxLen at hl0
    clear w0
    go_enter Try.func5, Try.ntmps5
    go_wp2_with (go_at_call 7; refine (wakes_ok _).mono ?_; rintro e w2 ⟨rfl, b2⟩)
    go_ret
    exact ⟨rfl, b2⟩
  have d1 : decide ((100 : Int) < (l0 : Int)) = false := by simp; omega
  go_enter Try.func5, Try.ntmps5
  go_wp2_with fail
  refine (new_ok 60 (by omega) _ w.heap.size (Nat.le_refl _)).mono ?_
  rintro e wa ⟨bt, ba, rfl, ta, _, _, ba0⟩
  have hw0 := Lib.hid w0
  clear w0
  go_wp2_with fail
  go_loopw [32] (fun i wr => ∃ (k : Nat) (M : Tr), k ≤ l0 ∧ i = .int .i64 k ∧ TT wr w.heap.size bt ba M ∧ Built M ∧ Below w.heap.size w wr) (fun i _ => l0 - (intOf i).toNat)
  case atStart => exact ⟨0, _, Nat.zero_le _, rfl, ⟨_, ta⟩, Built.nil _ _ rfl, ba0⟩
  case round =>
    obtain ⟨k, M, hk, rfl, hT, hG, hbel⟩ := hrel
    by_cases hlt : k < l0
    · obtain ⟨x0, rfl, hz⟩ : ∃ x, A0 = some x ∧ w.cell? (x.add k) = some (.int .i64 (z0.getD k 0)) := by
        rcases hw0.out with ⟨_, h, _⟩ | ⟨x, hx, h1, _, h3, h4, _⟩
        · omega
        · exact ⟨x, hx, h4 k (by omega)⟩
      have e0 : wr.cell? (x0.add k) = some (.int .i64 (z0.getD k 0)) := (hbel.cell (World.block_lt_of_cell? _ _ hz)).trans hz
      generalize z0.getD k 0 = lit at *
      clear hz
      go_wp2_with (first | (go_at_call 9; refine (begin_T hT).mono ?_; rintro e w2 ⟨rfl, hT2, hS2⟩) | (go_at_call 10; first | (refine (put_T hT2 _ _).mono ?_; rintro e w3 ⟨rfl, hT3, hS3⟩; have hb3 := (hbel.trans hS2.below).trans hS3.below; have hG3 := hG.begin_.put lit k (by omega)) | (refine (put_T hT _ _).mono ?_; rintro e w3 ⟨rfl, hT3, hS3⟩; have hb3 := hbel.trans hS3.below; have hG3 := hG.put lit k (by omega))))
      all_goals exact ⟨⟨k + 1, _, by omega, by go_num, hT3, hG3, hb3⟩, by simp [intOf]; omega⟩
    · obtain rfl : k = l0 := by omega
      clear hlt hk hw0 ta ba0 d1 h100
      have hM := hT.ok
      have hbt0 := hT.lt.2.2.1
      have hba0 := hT.lt.2.2.2
      go_wp2_with fail
      refine (all_T hT).mono ?_
      rintro e w2 ⟨vall, rfl, oall1, b2⟩
      have hT2 := hT.below b2
      have hB2 := below_then hbel (Nat.le_refl _) b2
      go_wp2_with fail
      refine (values_T hT2).mono ?_
      rintro e w3 ⟨gv, rfl, hgv, hvals, b3⟩
      have hT3 := hT2.below b3
      have hB3 := below_then hB2 (Nat.le_refl _) b3
      have oall2 := oall1.below b3
      go_wp2_with fail
      refine (levels_T hT3).mono ?_
      rintro e w4 ⟨rfl, hw4⟩
      obtain rfl := hw4
      obtain ⟨A1, ca, rfl⟩ := oall2.shape
      rw [List.length_map] at *
      have hN60 := hG.n
      have hlen := hM.len
      have hlv := hM.lv
      have hbt : bt < w3.heap.size := hT3.lt.2.2.1
      have hba : ba < w3.heap.size := hT3.lt.2.2.2
      have hgv4 := hvals.lt
      have OA := Lib.hid oall2
      have OV := Lib.hid hvals
      have HT := Lib.hid hT3
      have HG := Lib.hid hG
      have HM := Lib.hid hM
      have HB := Lib.hid hB3
      clear oall1 oall2 hvals hT hT2 hT3 hG hM hB2 hB3 b2 b3 hbel
      go_wp2_with fail
      go_loopw [55, 11] (fun i la wr => ∃ j : Nat, j ≤ M.L.length ∧ i = .int .i64 j ∧ la = .int .i64 (lastOf M.L j) ∧ Below w3.heap.size w3 wr) (fun i _ _ => M.L.length - (intOf i).toNat)
      case atStart => exact ⟨0, Nat.zero_le _, rfl, rfl, Below.refl _ _⟩
      case round =>
        obtain ⟨j, hj, rfl, rfl, hbel⟩ := hrel
        by_cases hlt : j < M.L.length
        · have hT := HT.out.below hbel
          obtain ⟨-, hcs⟩ := (OA.out.below hbel).at_
          obtain ⟨a, rfl, hab, hc⟩ := hcs j (by rw [List.length_map]; exact hlt)
          rw [List.getElem_map] at hc
          clear hcs
          have F1 := val_self HM.out hlt
          have F2 := val_turn HM.out hlt
          have F3 := level_self HM.out hlt
          have F4 := last_le HM.out HG.out.rise hlt
          have F5 := Lib.hid (last_succ hlt)
          have hlit := HM.out.lit _ (List.getElem_mem hlt)
          have d3 : decide (M.L[j].level < lastOf M.L j) = false := by simpa using F4
          generalize lastOf M.L j = la at *
          generalize M.L[j] = p at *
          have G1 := Lib.hid F1
          have G2 := Lib.hid F2
          have G3 := Lib.hid F3
          clear F1 F2 F3 F4
          go_wp2_with fail
          refine (val_T hT _).mono ?_
          rintro e w5 ⟨rfl, b5⟩
          rw [G1.out]
          have hT5 := hT.below b5
          have hb5 := below_then hbel (Nat.le_refl _) b5
          go_wp2_with fail
          refine (val_T hT5 _).mono ?_
          rintro e w6 ⟨rfl, b6⟩
          rw [G2.out]
          have hT6 := hT5.below b6
          have hb6 := below_then hb5 (Nat.le_refl _) b6
          go_wp2_with fail
          refine (level_T hT6 _).mono ?_
          rintro e w7 ⟨rfl, b7⟩
          rw [G3.out]
          have hT7 := hT6.below b7
          have hb7 := below_then hb6 (Nat.le_refl _) b7
          go_wp2_with fail
          refine (level_T hT7 _).mono ?_
          rintro e w8 ⟨rfl, b8⟩
          rw [G3.out]
          have hb8 := below_then hb7 (Nat.le_refl _) b8
          go_wp2_with fail
          exact ⟨⟨j + 1, by omega, by go_num, by rw [F5.out], hb8⟩, by simp [intOf]; omega⟩
        · obtain rfl : j = M.L.length := by omega
          clear hlt hj
          obtain ⟨lv2, hlv2, hmod, hm1, hm2⟩ := mod_in lev M.lv
          go_wp2_with fail
          have BQ := Lib.hid hbel
          clear hbel
          have HM1 := Lib.hid hm1
          have HM2 := Lib.hid hm2
          have HMOD := Lib.hid hmod
          clear hm1 hm2 hmod
          go_loopw [96, 15, 16] (fun i vl vr wr => ∃ j : Nat, j ≤ M.L.length ∧ i = .int .i64 j ∧ wr.ownsRow w3.heap.size 3 1 vl j ((M.L.take j).map fun p => .int .i64 p.level) ∧
            wr.ownsRow w3.heap.size 3 1 vr j ((M.L.take j).map fun p => .int .i64 p.reason) ∧ (∀ g, vl.ownBlock = some g → vr.ownBlock ≠ some g) ∧ Below w3.heap.size w3 wr) (fun i _ _ _ => M.L.length - (intOf i).toNat)
          case atStart => exact ⟨0, Nat.zero_le _, rfl, World.ownsRow_nil _ _ _ _, World.ownsRow_nil _ _ _ _, (fun g hg => by cases hg), BQ.out⟩
          case round =>
            obtain ⟨j, hj, rfl, hol, hor, hne, hbel⟩ := hrel
            by_cases hlt : j < M.L.length
            · have hT := HT.out.below hbel
              obtain ⟨-, hcs⟩ := (OA.out.below hbel).at_
              obtain ⟨a, rfl, hab, hc⟩ := hcs j (by rw [List.length_map]; exact hlt)
              rw [List.getElem_map] at hc
              clear hcs
              have F3 := Lib.hid (level_self HM.out hlt)
              have F4 := Lib.hid (reason_self HM.out hlt)
              have hts1 : Hid ((M.L.take (j + 1)).map (fun p => Value.int .i64 p.level) = (M.L.take j).map (fun p => Value.int .i64 p.level) ++ [.int .i64 M.L[j].level]) := by
                apply Lib.hid
                rw [List.take_succ_eq_append_getElem hlt, List.map_append]; rfl
              have hts2 : Hid ((M.L.take (j + 1)).map (fun p => Value.int .i64 p.reason) = (M.L.take j).map (fun p => Value.int .i64 p.reason) ++ [.int .i64 M.L[j].reason]) := by
                apply Lib.hid
                rw [List.take_succ_eq_append_getElem hlt, List.map_append]; rfl
              generalize M.L[j] = p at *
              have h1c : Hid (∀ u ∈ #[Value.int .i64 p.level].toList, u.oneCell' = true) := Lib.hid (by simp [Value.oneCell'])
              have h2c : Hid (∀ u ∈ #[Value.int .i64 p.reason].toList, u.oneCell' = true) := Lib.hid (by simp [Value.oneCell'])
              have hsz := hbel.size
              go_wp2_with fail
              refine (level_T hT _).mono ?_
              rintro e w5 ⟨rfl, b5⟩
              rw [F3.out]
              have hT5 := hT.below b5
              have hb5 := below_then hbel (Nat.le_refl _) b5
              have hol5 := own_kept hol (Kept.of_below (S := fun _ => False) b5) (fun _ _ h => h)
              have hor5 := own_kept hor (Kept.of_below (S := fun _ => False) b5) (fun _ _ h => h)
              have hs5 := hb5.size
              go_wp2_with (at_builtin; refine list_push _ rfl (.tmp 100) (.tmp 105) 22 rfl w3.heap.size 3 i0 (.int .i64 0) 1 8 Try.underlying22 hi hz0 hz1 hz2 rfl (by decide) u15 j _ rfl (hol5.alloc _) w5.heap.size #[.int .i64 p.level] rfl (Blk.new _ _ _) rfl h1c.out (by omega) (by omega) (by omega) (fun g6 cap6 w6 hown6 hgrow6 hat6 hlt6 => ?_))
              have hne6 : u16.ownBlock ≠ some g6 := fun e => by
                rcases hat6 with h | h
                · exact hne g6 h e
                · have := (hor5.lt g6 e).2
                  simp at h
                  omega
              have hor6 := own_kept hor5 (((Kept.refl (fun b => u15.ownBlock = some b) w5).alloc (.cells #[.int .i64 p.level] 3)).grown hgrow6 (fun k hk => .inl hk)) (fun g hg e => hne g e hg)
              have hb6 : Below w3.heap.size w3 w6 := (hb5.alloc hs5 _).grown hgrow6 (by simp; omega) (fun q hq => (hol5.lt q hq).1)
              have hT6 := HT.out.below hb6
              clear hol hor hol5 hor5 hT hT5 b5 hgrow6 hat6 hne
              refine (reason_T hT6 _).mono ?_
              rintro e w7 ⟨rfl, b7⟩
              rw [F4.out]
              have hb7 := below_then hb6 (Nat.le_refl _) b7
              have hol7 := own_kept hown6 (Kept.of_below (S := fun _ => False) b7) (fun _ _ h => h)
              have hor7 := own_kept hor6 (Kept.of_below (S := fun _ => False) b7) (fun _ _ h => h)
              have hs7 := hb7.size
              have hs67 := b7.size
              clear hown6 hor6 hT6
              go_wp2_with (at_builtin; refine list_push _ rfl (.tmp 107) (.tmp 112) 22 rfl w3.heap.size 3 i0 (.int .i64 0) 1 8 Try.underlying22 hi hz0 hz1 hz2 rfl (by decide) u16 j _ rfl (hor7.alloc _) w7.heap.size #[.int .i64 p.reason] rfl (Blk.new _ _ _) rfl h2c.out (by omega) (by omega) (by omega) (fun g8 cap8 w8 hown8 hgrow8 hat8 hlt8 => ?_))
              have hol8 := own_kept hol7 (((Kept.refl (fun b => u16.ownBlock = some b) w7).alloc (.cells #[.int .i64 p.reason] 3)).grown hgrow8 (fun k hk => .inl hk)) (fun g hg e => by injection hg with hg; exact hne6 (by rw [e, ← hg]))
              have hb8 : Below w3.heap.size w3 w8 := (hb7.alloc hs7 _).grown hgrow8 (by simp; omega) (fun q hq => (hor7.lt q hq).1)
              have hne8 : g6 ≠ g8 := fun e => by
                rcases hat8 with h | h
                · exact hne6 (e ▸ h)
                · simp at h
                  omega
              exact ⟨⟨j + 1, by omega, by go_num, by rw [hts1.out]; exact hol8, by rw [hts2.out]; exact hown8, fun g hg hg' => by injection hg with hg; injection hg' with hg'; exact hne8 (hg.trans hg'.symm), hb8⟩, by simp [intOf]; omega⟩
            · obtain rfl : j = M.L.length := by omega
              clear hlt hj hne
              rw [List.take_length] at hol hor
              obtain ⟨Al, cl, rfl⟩ := own_slice hol
              obtain ⟨Ar, cr, rfl⟩ := own_slice hor
              have hol2 : IntsFrom wr w3.heap.size (.slice Al M.L.length cl) (M.L.map Pt.level) := by
                unfold IntsFrom
                rw [List.length_map, List.map_map]
                exact hol
              have hor2 : IntsFrom wr w3.heap.size (.slice Ar M.L.length cr) (M.L.map Pt.reason) := by
                unfold IntsFrom
                rw [List.length_map, List.map_map]
                exact hor
              have OL := Lib.hid hol2
              have OR := Lib.hid hor2
              have OA2 := Lib.hid (OA.out.below hbel)
              have OV2 := Lib.hid (OV.out.below hbel hgv4)
              have hT := HT.out.below hbel
              have hB := below_then HB.out (Nat.le_refl _) hbel
              have HBel := Lib.hid hbel
              clear hol hor hol2 hor2 hbel
              go_wp2_with fail
              refine (back_T hT lv2).mono ?_
              rintro e w5 ⟨vg, rfl, og, hT5, hS5⟩
              have hbad : backBad M lv2 = false := by simp [backBad]; omega
              have hE : backE M lv2 = 0 := by unfold backE; rw [hbad]; rfl
              have hGo : backGone M lv2 = (M.L.reverse.take (above lv2 M.L)).map Pt.lit := by unfold backGone; rw [hbad]; rfl
              have hMo : backM M lv2 = ⟨M.n, M.L.take (M.L.length - above lv2 M.L), lv2⟩ := by unfold backM; rw [hbad]; rfl
              rw [hE]
              rw [hGo] at og
              rw [hMo] at hT5
              have habv := above_le lv2 M.L
              have hgl : ((M.L.reverse.take (above lv2 M.L)).map Pt.lit).length = above lv2 M.L := by simp; omega
              obtain ⟨Ag, cg, rfl⟩ := og.shape
              rw [hgl] at og ⊢
              have hGat : Hid (∀ i (hi : i < M.L.length), M.L.length - above lv2 M.L ≤ i → ((M.L.reverse.take (above lv2 M.L)).map Pt.lit)[M.L.length - 1 - i]? = some M.L[i].lit) := Lib.hid fun i hi hg => gone_at hi hg
              have hLup : Hid (∀ i (hi : i < M.L.length), M.L.length - above lv2 M.L ≤ i → (lv2 : Int) < M.L[i].level) := Lib.hid fun i hi hg => above_of hi hg
              generalize (M.L.reverse.take (above lv2 M.L)).map Pt.lit = lg at *
              clear hbad hE hGo hMo
              generalize above lv2 M.L = c at *
              obtain ⟨m, hm⟩ : ∃ m, m + c = M.L.length := ⟨M.L.length - c, by omega⟩
              rw [show M.L.length - c = m by omega] at hT5 hGat hLup
              have hbt1 := hT.lt.2.2.1
              have hba1 := hT.lt.2.2.2
              have OG := Lib.hid og
              have OL5 := Lib.hid (OL.out.step hS5 hbt hba)
              have OR5 := Lib.hid (OR.out.step hS5 hbt hba)
              have OA5 := Lib.hid (OA2.out.step hS5 hbt0 hba0)
              obtain ⟨lvx, htx⟩ := hT
              have OV5 := Lib.hid (hS5.blk OV2.out (OV2.out.ne_ htx.blk (by decide)) (OV2.out.ne_ htx.at_ (by decide)) (by decide))
              have hB5 := hB.trans hS5.below
              clear og OL OR OA OA2 OV OV2 hB HT HBel htx HB hS5 HMOD HM1 HM2
              have hml : (M.L.take m).length = m := by simp; omega
              go_wp2_with fail
              refine (all_T hT5).mono ?_
              rintro e w6 ⟨v6, rfl, o6, b6⟩
              obtain ⟨A6, c6, rfl⟩ := o6.shape
              rw [List.length_map, hml]
              have hT6 := hT5.below b6
              have hB6 := below_then hB5 (Nat.le_refl _) b6
              clear o6 hT5 hB5
              go_wp2_with fail
              refine (levels_T hT6).mono ?_
              rintro e w7 ⟨rfl, hw7⟩
              obtain rfl := hw7
              go_wp2_with fail
              refine (all_T hT6).mono ?_
              rintro e w7 ⟨v7, rfl, o7, b7⟩
              obtain ⟨A7, c7, rfl⟩ := o7.shape
              rw [List.length_map, hml]
              have hT7 := hT6.below b7
              have hB7 := below_then hB6 (Nat.le_refl _) b7
              have OL7 := Lib.hid ((OL5.out.below b6).below b7)
              have OR7 := Lib.hid ((OR5.out.below b6).below b7)
              have OA7 := Lib.hid ((OA5.out.below b6).below b7)
              have OG7 := Lib.hid ((OG.out.below b6).below b7)
              have OV6 := OV5.out.below b6 OV5.out.lt
              have OV7 := Lib.hid (OV6.below b7 OV6.lt)
              clear o7 hT6 hB6 b6 b7 OL5 OR5 OA5 OG OV5 OV6 hml
              go_wp2_with fail
              go_loopw [21] (fun iv wr => ∃ i q : Nat, m ≤ i ∧ i ≤ M.L.length ∧ iv = .int .i64 i ∧ TT wr w.heap.size bt ba ⟨M.n, M.L.take i, q⟩ ∧ (∀ j (hj : j < M.L.length), i ≤ j → (q : Int) ≤ M.L[j].level) ∧ Step w.heap.size bt ba w7 wr) (fun iv _ => M.L.length - (intOf iv).toNat)
              case atStart =>
                exact ⟨m, lv2, Nat.le_refl _, by omega, rfl, hT7, fun j hj hmj => by have := hLup.out j hj hmj; omega, Step.refl _ _ _ _⟩
              case round =>
                obtain ⟨i, q, hmi, hiN, rfl, hT, hup, hS⟩ := hrel
                by_cases hlt : i < M.L.length
                · go_wp2_with fail
                  have hlq := hup i hlt (Nat.le_refl _)
                  have hll := HM.out.level _ (List.getElem_mem hlt)
                  obtain ⟨l, hl⟩ := Int.eq_ofNat_of_zero_le hll.1
                  rw [hl] at hlq hll
                  go_loopw [22] (fun tv wr => ∃ T q1 : Nat, T ≤ q1 ∧ q1 ≤ l ∧ tv = .int .i64 T ∧ TT wr w.heap.size bt ba ⟨M.n, M.L.take i, q1⟩ ∧ Step w.heap.size bt ba w7 wr) (fun tv _ => 100000 - (intOf tv).toNat)
                  case atStart => exact ⟨0, q, Nat.zero_le _, by omega, rfl, hT, hS⟩
                  case round =>
                    obtain ⟨T, q1, hTq, hql, rfl, hT1, hS1⟩ := hrel
                    obtain ⟨-, hcl⟩ := (OL7.out.step hS1 hbt hba).at_
                    obtain ⟨al, rfl, hal, hcl⟩ := hcl i (by rw [List.length_map]; exact hlt)
                    rw [List.getElem_map, hl] at hcl
                    by_cases hq1 : q1 < l
                    · have d1 : decide (T < l) = true := by simp; omega
                      have d2 : decide (q1 < l) = true := by simpa using hq1
                      go_wp2_with fail
                      go_quiet ((go_at_call 14; refine Calls.quiet_of_same (levels_Tq (hT1.drewN _))))
                      go_wp2_with fail
                      refine (begin_T (hT1.drewN _)).mono ?_
                      rintro e w8 ⟨rfl, hT8, hS8⟩
                      have hbm : beginM ⟨M.n, M.L.take i, q1⟩ = ⟨M.n, M.L.take i, q1 + 1⟩ := if_neg (show ¬ q1 = 65536 by omega)
                      rw [hbm] at hT8
                      go_wp2_with fail
                      exact ⟨⟨T + 1, q1 + 1, by omega, by omega, by go_num, hT8, (hS1.drewN _).trans hS8⟩, by simp [intOf]; omega⟩
                    · obtain rfl : q1 = l := by omega
                      obtain ⟨r, hr⟩ : ∃ r, r + 1 + i = M.L.length := ⟨M.L.length - 1 - i, by omega⟩
                      have hxl : (M.L.map Pt.level)[i]? = some (q1 : Int) := by rw [← hl]; simp [hlt]
                      have hxa : (M.L.map Pt.lit)[i]? = some M.L[i].lit := by simp [hlt]
                      have hxr : (M.L.map Pt.reason)[i]? = some M.L[i].reason := by simp [hlt]
                      have hxg := hGat.out i hlt hmi
                      rw [show M.L.length - 1 - i = r by omega] at hxg
                      have PE := Lib.hid (put_again HM.out HG.out.reas hlt hl)
                      have PV := Lib.hid (val_gone HM.out hlt)
                      have HUP : Hid (∀ j (hj : j < M.L.length), i + 1 ≤ j → (q1 : Int) ≤ M.L[j].level) := Lib.hid fun j hj hij => by
                        rw [← hl]
                        exact List.pairwise_iff_getElem.1 HG.out.rise i j hlt hj (by omega)
                      have hrc : r < c := by omega
                      have hw1 : IntKind.i64.wrap ((M.L.length : Int) - 1) = (M.L.length : Int) - 1 := IntWalk.i64_in _ (by omega)
                      have hw2 : IntKind.i64.wrap ((M.L.length : Int) - 1 - (i : Int)) = (r : Int) := by
                        rw [IntWalk.i64_in _ (by omega)]
                        omega
                      have dge : decide (M.L.length ≤ i) = false := by simpa using hlt
                      clear hl hq1
                      generalize M.L[i] = p at *
                      by_cases hTl : T < q1
                      · have d1 : decide (T < q1) = true := by simpa using hTl
                        have d2 : decide (q1 < q1) = false := by simp
                        go_wp2_with fail
                        go_quiet ((go_at_call 14; refine Calls.quiet_of_same (levels_Tq (hT1.drewN _))))
                        go_wp2_with fail
                        have hSq : Step w.heap.size bt ba w7 (wr.drewN nq).drew := hS1.drewN (nq + 1)
                        have hTd : TT (wr.drewN nq).drew w.heap.size bt ba ⟨M.n, M.L.take i, q1⟩ := hT1.drewN (nq + 1)
                        generalize wr.drewN nq = wq at *
                        obtain ⟨aa, rfl⟩ := OA7.out.some_of hxa
                        obtain ⟨ar, rfl⟩ := OR7.out.some_of hxr
                        obtain ⟨ag, rfl⟩ := OG7.out.some_of hxg
                        have Hx := Lib.hid (And.intro hxl (And.intro hxa (And.intro hxr hxg)))
                        have y1 := OL7.out.cell_to hSq hbt hba hxl
                        have y2 := OA7.out.cell_to hSq hbt0 hba0 hxa
                        have y3 := OR7.out.cell_to hSq hbt hba hxr
                        have y4 := OG7.out.cell_to hSq hbt1 hba1 hxg
                        clear hcl hxl hxa hxr hxg hup hT hS hlq hll hT1 hS1
                        go_region_held3 (fun w' => w'.cell? (al.add i) = some (.int .i64 (q1 : Int)) ∧ w'.cell? (aa.add i) = some (.int .i64 p.lit) ∧ w'.cell? (ar.add i) = some (.int .i64 p.reason) ∧ w'.cell? (ag.add r) = some (.int .i64 p.lit)) (go_keep)
                          (first
                            | (go_at_call 14; refine (levels_Tq hTd).mono ?_; rintro e w8 ⟨rfl, hw8⟩; obtain rfl := hw8)
                            | (go_at_call 12; refine (val_T hTd _).mono ?_; rintro e w9 ⟨rfl, b9⟩; rw [PV.out]; have hT9 := hTd.below b9; have hS9 := hSq.trans (Step.of_below b9 hTd.hB); have z1 := OL7.out.cell_to hS9 hbt hba Hx.out.1; have z2 := OA7.out.cell_to hS9 hbt0 hba0 Hx.out.2.1; have z3 := OR7.out.cell_to hS9 hbt hba Hx.out.2.2.1; have z4 := OG7.out.cell_to hS9 hbt1 hba1 Hx.out.2.2.2)
                            | (go_at_call 10; refine (put_T hT9 _ _).mono ?_; rintro e w10 ⟨rfl, hT10, hS10⟩; rw [PE.out.1]; rw [PE.out.2] at hT10; have hS11 := hS9.trans hS10; have k1 := OL7.out.cell_to hS11 hbt hba Hx.out.1; have k2 := OA7.out.cell_to hS11 hbt0 hba0 Hx.out.2.1; have k3 := OR7.out.cell_to hS11 hbt hba Hx.out.2.2.1; have k4 := OG7.out.cell_to hS11 hbt1 hba1 Hx.out.2.2.2))
                        go_wp2_with fail
                        exact ⟨⟨i + 1, q1, by omega, by omega, by go_num, hT10, HUP.out, hS11⟩, by simp [intOf]; omega⟩
                      · have d1 : decide (T < q1) = false := by simpa using hTl
                        go_wp2_with fail
                        go_quiet (fail)
                        go_wp2_with fail
                        have hSq : Step w.heap.size bt ba w7 (wr.drewN nq).drew := hS1.drewN (nq + 1)
                        have hTd : TT (wr.drewN nq).drew w.heap.size bt ba ⟨M.n, M.L.take i, q1⟩ := hT1.drewN (nq + 1)
                        generalize wr.drewN nq = wq at *
                        obtain ⟨aa, rfl⟩ := OA7.out.some_of hxa
                        obtain ⟨ar, rfl⟩ := OR7.out.some_of hxr
                        obtain ⟨ag, rfl⟩ := OG7.out.some_of hxg
                        have Hx := Lib.hid (And.intro hxl (And.intro hxa (And.intro hxr hxg)))
                        have y1 := OL7.out.cell_to hSq hbt hba hxl
                        have y2 := OA7.out.cell_to hSq hbt0 hba0 hxa
                        have y3 := OR7.out.cell_to hSq hbt hba hxr
                        have y4 := OG7.out.cell_to hSq hbt1 hba1 hxg
                        clear hcl hxl hxa hxr hxg hup hT hS hlq hll hT1 hS1
                        go_region_held3 (fun w' => w'.cell? (al.add i) = some (.int .i64 (q1 : Int)) ∧ w'.cell? (aa.add i) = some (.int .i64 p.lit) ∧ w'.cell? (ar.add i) = some (.int .i64 p.reason) ∧ w'.cell? (ag.add r) = some (.int .i64 p.lit)) (go_keep)
                          (first
                            | (go_at_call 14; refine (levels_Tq hTd).mono ?_; rintro e w8 ⟨rfl, hw8⟩; obtain rfl := hw8)
                            | (go_at_call 12; refine (val_T hTd _).mono ?_; rintro e w9 ⟨rfl, b9⟩; rw [PV.out]; have hT9 := hTd.below b9; have hS9 := hSq.trans (Step.of_below b9 hTd.hB); have z1 := OL7.out.cell_to hS9 hbt hba Hx.out.1; have z2 := OA7.out.cell_to hS9 hbt0 hba0 Hx.out.2.1; have z3 := OR7.out.cell_to hS9 hbt hba Hx.out.2.2.1; have z4 := OG7.out.cell_to hS9 hbt1 hba1 Hx.out.2.2.2)
                            | (go_at_call 10; refine (put_T hT9 _ _).mono ?_; rintro e w10 ⟨rfl, hT10, hS10⟩; rw [PE.out.1]; rw [PE.out.2] at hT10; have hS11 := hS9.trans hS10; have k1 := OL7.out.cell_to hS11 hbt hba Hx.out.1; have k2 := OA7.out.cell_to hS11 hbt0 hba0 Hx.out.2.1; have k3 := OR7.out.cell_to hS11 hbt hba Hx.out.2.2.1; have k4 := OG7.out.cell_to hS11 hbt1 hba1 Hx.out.2.2.2))
                        go_wp2_with fail
                        exact ⟨⟨i + 1, q1, by omega, by omega, by go_num, hT10, HUP.out, hS11⟩, by simp [intOf]; omega⟩
                · obtain rfl : i = M.L.length := by omega
                  rw [List.take_length] at hT
                  have hBx := hB7.trans hS.below
                  obtain ⟨lvy, hty⟩ := hT7
                  have OVx := hS.blk OV7.out (OV7.out.ne_ hty.blk (by decide)) (OV7.out.ne_ hty.at_ (by decide)) (by decide)
                  have OAx := OA7.out.step hS hbt0 hba0
                  clear hty hlt hup hS hB7 OA7 OG7 OL7 OR7 OV7 hGat hLup
                  go_wp2_with fail
                  refine (values_T hT).mono ?_
                  rintro e w8 ⟨gn, rfl, hgn, hvn, b8⟩
                  have hT8 := hT.below b8
                  have hB8 := below_then hBx (Nat.le_refl _) b8
                  have OV8 := OVx.below b8 OVx.lt
                  have OA8 := OAx.below b8
                  clear hT hBx OVx OAx b8
                  rw [hN60] at hvn OV8 ⊢
                  have HVN := Lib.hid hvn
                  have HOV := Lib.hid OV8
                  have HOA := Lib.hid OA8
                  have hgn8 := hvn.lt
                  clear hvn OV8 OA8
                  go_wp2_with fail
                  go_loopw [222] (fun iv wr => ∃ j d : Nat, j ≤ 60 ∧ iv = .int .i64 j ∧ wr = w8.drewN d) (fun iv _ => 60 - (intOf iv).toNat)
                  case atStart => exact ⟨0, 0, Nat.zero_le _, rfl, rfl⟩
                  case round =>
                    obtain ⟨j, d, hj, rfl, rfl⟩ := hrel
                    by_cases hlt2 : j < 60
                    · have e1 : w8.cell? ⟨gn, j, none⟩ = some (.int .i8 (valOf M.L (2 * (j : Int)))) := by
                        rw [HVN.out.cell]
                        simp [valCells, valsOf, hlt2]
                      have e2 : w8.cell? ⟨gv, j, none⟩ = some (.int .i8 (valOf M.L (2 * (j : Int)))) := by
                        rw [HOV.out.cell]
                        simp [valCells, valsOf, hlt2]
                      generalize valOf M.L (2 * (j : Int)) = vv at *
                      go_wp2_with fail
                      go_quiet (fail)
                      go_wp2_with fail
                      exact ⟨⟨j + 1, _, by omega, by go_num, rfl⟩, by simp [intOf]; omega⟩
                    · obtain rfl : j = 60 := by omega
                      go_wp2_with fail
                      have hTd := hT8.drewN d
                      have hBd := below_drewN hB8 d
                      refine (all_T hTd).mono ?_
                      rintro e w9 ⟨v9, rfl, o9, b9⟩
                      have hB9 := below_then hBd (Nat.le_refl _) b9
                      have OA9 := (HOA.out.below (w' := w8.drewN d) ⟨rfl, rfl, rfl, Nat.le_refl _, fun _ _ => rfl⟩).below b9
                      obtain ⟨A9, c9, rfl, i9⟩ := o9.form
                      obtain ⟨A10, c10, e10, i10⟩ := OA9.form
                      injection e10 with e11 e12 e13
                      subst e11 e13
                      clear e12
                      have hml9 : (M.L.map Pt.lit).length ≤ 9223372036854775807 := by rw [List.length_map]; omega
                      rw [List.length_map] at i9 i10 hml9 ⊢
                      have I9 := Lib.hid i9
                      have I10 := Lib.hid i10
                      have HML := Lib.hid hml9
                      clear OA9 HOA HOV HVN o9 b9 hTd hBd hB8 hT8 i9 i10 hml9
                      go_wp2_with fail
                      refine (ints_same I9.out I10.out HML.out).mono ?_
                      rintro e w11 ⟨rfl, n11, rfl⟩
                      have hB11 := below_drewN hB9 n11
                      go_wp2_with fail
                      refine (wakes_ok _).mono ?_
                      rintro e w12 ⟨rfl, b12⟩
                      have hB12 := below_then hB11 (Nat.le_refl _) b12
                      go_wp2_with fail
                      go_ret
                      exact ⟨rfl, hB12⟩
end Go.Proofs.Ytfdfblokbojcfaa

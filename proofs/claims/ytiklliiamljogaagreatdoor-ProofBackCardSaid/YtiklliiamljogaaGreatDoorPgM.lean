/- ProofBack: the plain law. -/
import Derived.Test.YtiklliiamljogaaGreatDoorPgG
import Derived.Test.YtiklliiamljogaaGreatDoorPgF
import Derived.Test.YtiklliiamljogaaGreatDoorPgI
namespace Go.Proofs.YtiklliiamljogaaGreatDoor
open Go.RowKit Go.Lib

/-- One expression, white space and comments about it. -/
theorem may_one {x : Sx} (hx : x.may = true) (pre post : List UInt8) (hpre : ∀ b, sk false (pre ++ b) = pre.length + sk false b) (hs : signs post = []) (hpost : sk false post = post.length) :
    (allM (pre ++ (x.print ++ post))).1 = [x] ∧ (allM (pre ++ (x.print ++ post))).2.2 = 0 := by
  obtain ⟨b, hb⟩ : ∃ b, x.print ++ post = b := ⟨_, rfl⟩
  obtain ⟨L, hL⟩ : ∃ L, pre ++ b = L := ⟨_, rfl⟩
  have hsx : x.stands = true := by unfold Sx.may at hx; rw [Bool.and_eq_true] at hx; exact hx.2
  have h1 := may_read hx post hs
  obtain ⟨⟨r1, hr1, _⟩, _⟩ := print_read x hsx post hs
  have hs1 := start_lead (lead := []) (.inl rfl) hr1
  rw [List.nil_append, List.length_nil] at hs1
  have hpos := List.length_pos_iff.2 (print_ne hsx)
  rw [hb] at h1 hs1
  have hk0 : sk false b = 0 := by
    unfold startL at hs1
    rw [List.drop_zero] at hs1
    omega
  have hlen : L.length = pre.length + (x.print.length + post.length) := by rw [← hL, ← hb, List.length_append, List.length_append]
  have hst0 : startL L 0 = pre.length := by
    unfold startL
    rw [List.drop_zero, ← hL, hpre, hk0]
    omega
  have hst1 : startL L pre.length = pre.length := by
    have := startL_shift pre b 0
    rw [hL, hs1] at this
    simpa using this
  have ht : topP L 0 = .ok x (pre.length + x.print.length) := by
    rw [topP_same (q := pre.length) (by omega) (by omega) (hst0.trans hst1.symm)]
    have := topP_shift pre b 0
    rw [hL, h1, Nat.add_zero] at this
    rw [this]
    rfl
  have hse : startL L (pre.length + x.print.length) = L.length := by
    unfold startL
    have h4 : L.drop (pre.length + x.print.length) = post := by
      rw [← hL, ← hb, ← List.append_assoc]
      exact List.drop_left' (by rw [List.length_append])
    rw [h4, hpost, hlen]
    omega
  rw [hb, hL]
  unfold allM
  obtain ⟨f, hf⟩ : ∃ f, L.length + 1 = f + 1 + 1 := ⟨L.length - 1, by omega⟩
  rw [hf]
  unfold allF
  rw [hst0, if_neg (by omega), ht]
  dsimp only
  unfold allF
  rw [hse, if_pos rfl]
  exact ⟨rfl, rfl⟩
theorem raw_is_print (L : List Stp) : (proofX L).raw = (proofX L).print := raw_print _ (proof_bare L)
theorem read_back {L : List Stp} (h : ∀ s ∈ L, s.may = true) (hl : L.length ≤ 4194304) (pre post : List UInt8) (hpre : ∀ b, sk false (pre ++ b) = pre.length + sk false b) (hs : signs post = []) (hpost : sk false post = post.length) :
    readS (pre ++ ((proofX L).raw ++ post)) = some L := by
  rw [raw_is_print]
  obtain ⟨h1, h2⟩ := may_one (proof_may h) pre post hpre hs hpost
  unfold readS
  rw [if_pos h2, h1]
  exact parse_proof h hl
theorem read_plain {L : List Stp} (h : ∀ s ∈ L, s.may = true) (hl : L.length ≤ 4194304) : readS (proofX L).raw = some L := by
  have := read_back h hl [] [] (fun b => by simp) rfl rfl
  rw [List.append_nil, List.nil_append] at this
  exact this
theorem read_deco {L : List Stp} (h : ∀ s ∈ L, s.may = true) (hl : L.length ≤ 4194304) : readS ([59, 32, 97, 10, 32] ++ ((proofX L).raw ++ [9, 59])) = some L :=
  read_back h hl _ _ (fun b => by
    show sk false (59 :: 32 :: 97 :: 10 :: 32 :: b) = _
    have e1 : sk false (59 :: 32 :: 97 :: 10 :: 32 :: b) = 1 + (1 + (1 + (1 + (1 + sk false b)))) := by
      rw [sk_f, if_pos (by decide), sk, if_neg (by decide), sk, if_neg (by decide), sk, if_pos (by decide), sk_f, if_neg (by decide), if_pos (by decide)]
    rw [e1]
    simp only [List.length_cons, List.length_nil]
    omega) (by decide) (by decide)

/-! ### How great it is -/
theorem num_mass {n : Int} (h : fitN n = true) : (numS n).mass ≤ 11 := by
  have h1 := (fit_iff n).1 h
  have := itoa_len h1.1 h1.2
  unfold numS
  rw [Sx.mass, Sx.masses]
  omega
theorem nums_mass : ∀ {l : List Int}, (∀ n ∈ l, fitN n = true) → Sx.masses (l.map numS) ≤ 11 * l.length
  | [], _ => by rw [List.map_nil, Sx.masses]; exact Nat.zero_le _
  | n :: r, h => by
    have h1 := num_mass (h n (by simp))
    have h2 := nums_mass (l := r) fun m hm => h m (by simp [hm])
    rw [List.map_cons, Sx.masses, List.length_cons]
    omega
theorem masses_append : ∀ (l m : List Sx), Sx.masses (l ++ m) = Sx.masses l + Sx.masses m
  | [], m => by rw [Sx.masses, List.nil_append, Nat.zero_add]
  | x :: r, m => by rw [List.cons_append, Sx.masses, Sx.masses, masses_append r m]; omega
theorem head_mass (k : Int) : (symS (headK k)).mass ≤ 6 := by
  unfold symS headK
  repeat' split
  all_goals decide
theorem step_mass {s : Stp} (h : s.may = true) : s.sx.mass ≤ 32 + 11 * s.l.length := by
  obtain ⟨_, _, _, _, _, hl, _⟩ := (may_iff s).1 h
  have hh := head_mass s.k
  have hn := nums_mass (l := s.nums) fun n hn => nums_fit h n hn
  have hn2 : s.nums.length ≤ 2 := by unfold Stp.nums; rw [List.length_take]; simp; omega
  have hb := nums_mass (l := s.l) fun n hn => List.all_eq_true.1 hl n hn
  unfold Stp.sx
  rw [Sx.mass, Sx.masses, masses_append, Sx.masses, Sx.mass, Sx.masses]
  simp only [List.length_nil]
  omega
theorem steps_mass : ∀ {l : List Stp}, (∀ s ∈ l, s.may = true) → (∀ s ∈ l, s.l.length ≤ 9000) → Sx.masses (l.map Stp.sx) ≤ 33 * gsum l
  | [], _, _ => by rw [List.map_nil, Sx.masses]; exact Nat.zero_le _
  | s :: r, h, h9 => by
    have h1 := step_mass (h s (by simp))
    have h2 := steps_mass (l := r) (fun y hy => h y (by simp [hy])) (fun y hy => h9 y (by simp [hy]))
    have h3 := h9 s (by simp)
    unfold gsum at h2 ⊢
    rw [List.map_cons, Sx.masses, List.map_cons, List.sum_cons]
    omega
theorem NotGreat.mass {L : List Stp} (h : NotGreat L) (hm : ∀ s ∈ L, s.may = true) : (proofX L).mass ≤ 400000 := by
  have h4 := steps_mass hm (fun s hs => by have := h.lits s hs; omega)
  have h5 := h.sum
  unfold proofX symS
  rw [Sx.mass, Sx.masses, Sx.mass, Sx.masses]
  have : wProof.length = 5 := rfl
  simp only [List.length_nil]
  omega

/-! ### What is read is not too great -/
theorem mass_pos (x : Sx) : 1 ≤ x.mass := by obtain ⟨k, t, l⟩ := x; rw [Sx.mass]; omega
theorem masses_mem : ∀ {l : List Sx} {x : Sx}, x ∈ l → x.mass ≤ Sx.masses l
  | y :: r, x, h => by
    rw [Sx.masses]
    rcases List.mem_cons.1 h with rfl | h
    · omega
    · have := masses_mem h; omega
theorem stepP_raw {x : Sx} {s : Stp} (h : stepP x = some s) : s.sx.raw.length + 1 ≤ 11 * x.mass ∧ s.l.length ≤ x.mass := by
  have hmay := step_may h
  have hr := step_raw hmay
  obtain ⟨k, t, l⟩ := x
  unfold stepP at h
  dsimp only at h
  split at h
  · split at h
    · cases h
    · rename_i y r
      split at h
      · cases h
      · rename_i q hq
        split at h
        · rename_i hrl
          split at h
          · rename_i ns ls h1 h2
            split at h
            · injection h with h
              have hlen := allP_len h2
              have hmk := mass_len (r.getD (manyK q) noSx).kids
              have hin : r.getD (manyK q) noSx ∈ r := by
                rw [List.getD_eq_getElem?_getD, List.getElem?_eq_getElem (by omega)]
                exact List.getElem_mem _
              have hm1 := masses_mem hin
              have hy := mass_pos y
              have hkm : (r.getD (manyK q) noSx).mass ≥ 1 + Sx.masses (r.getD (manyK q) noSx).kids := by
                generalize r.getD (manyK q) noSx = z
                obtain ⟨k', t', l'⟩ := z
                rw [Sx.mass]
                show _ ≥ 1 + Sx.masses l'
                omega
              have hsl : s.l.length = ls.length := by rw [← h]; rfl
              rw [Sx.mass, Sx.masses]
              omega
            · cases h
          · cases h
        · cases h
  · cases h
theorem allP_raw : ∀ {r : List Sx} {m : List Stp}, allP stepP r = some m → (Sx.rawt (m.map Stp.sx)).length ≤ 11 * Sx.masses r ∧ ∀ s ∈ m, s.l.length ≤ Sx.masses r
  | [], m, h => by
    unfold allP at h
    injection h with h
    subst h
    exact ⟨Nat.zero_le _, fun s hs => nomatch hs⟩
  | x :: r, m, h => by
    unfold allP at h
    split at h
    · cases h
    · rename_i y hy
      split at h
      · cases h
      · rename_i l hl
        injection h with h
        subst h
        obtain ⟨h1, h2⟩ := stepP_raw hy
        obtain ⟨h3, h4⟩ := allP_raw hl
        rw [List.map_cons, Sx.rawt, Sx.masses, List.length_cons, List.length_append]
        refine ⟨by omega, fun s hs => ?_⟩
        rcases List.mem_cons.1 hs with rfl | hs
        · omega
        · have := h4 s hs; omega
theorem parse_raw {x : Sx} {m : List Stp} (h : parseP x = some m) : (proofX m).raw.length ≤ 8 + 11 * x.mass ∧ (∀ s ∈ m, s.l.length ≤ x.mass) ∧ m.length ≤ x.mass := by
  have hpl := parse_len (x := x)
  rw [h] at hpl
  obtain ⟨k, t, l⟩ := x
  unfold parseP at h
  dsimp only at h
  split at h
  · split at h
    · cases h
    · rename_i y r hkt
      split at h
      · obtain ⟨h1, h2⟩ := allP_raw h
        rw [Sx.mass, Sx.masses] at hpl ⊢
        have : wProof.length = 5 := rfl
        refine ⟨?_, fun s hs => by have := h2 s hs; omega, hpl⟩
        unfold proofX
        rw [Sx.raw, if_pos rfl, Sx.raws]
        unfold symS
        rw [Sx.raw, if_neg (by decide)]
        simp only [List.length_cons, List.length_append, List.length_nil]
        omega
      · cases h
  · cases h
theorem read_raw {L : List UInt8} {m : List Stp} (hL : L.length ≤ 9000) (h : readS L = some m) : (∀ s ∈ m, s.may = true) ∧ (proofX m).raw.length ≤ 400000 ∧ Fine m ∧ m.length ≤ 18000 := by
  unfold readS at h
  split at h
  · split at h
    · rename_i x hx
      have h1 := allM_mass L x (by rw [hx]; simp)
      obtain ⟨h2, h3, h4⟩ := parse_raw h
      have hm := parse_may h
      exact ⟨hm, by omega, ⟨by omega, fun s hs => by have := h3 s hs; omega, fun s hs => by obtain ⟨a, b, _⟩ := (may_iff s).1 (hm s hs); omega⟩, by omega⟩
    · cases h
  · cases h
end Go.Proofs.YtiklliiamljogaaGreatDoor

/- ProofBack: the walk. -/
namespace Go.Proofs.YtiklliiamljogaaGreatDoor
open Go.RowKit Go.Lib

theorem ParseOut.got {o : Option (List Stp)} {L : List Stp} {w w' : World} {e : Ending} (ho : o = some L) (h : ParseOut o w w' e) : (∃ A c, e = .returned (.tuple #[.slice A L.length c, .int .i64 0]) ∧ Steps w' A L) ∧ Below w.heap.size w w' := by
  subst ho
  exact h
theorem ParseOut.bad {o : Option (List Stp)} {w w' : World} {e : Ending} (ho : o = none) (h : ParseOut o w w' e) : e = .returned (.tuple #[.slice none 0 0, .int .i64 30]) ∧ Below w.heap.size w w' := by
  subst ho
  exact h
theorem all_may {L : List Stp} (h : L.all Stp.may = true) : ∀ s ∈ L, s.may = true := fun _ hs => List.all_eq_true.1 h _ hs
theorem may_all_ {L : List Stp} (h : ∀ s ∈ L, s.may = true) : L.all Stp.may = true := List.all_eq_true.2 h

set_option maxHeartbeats 1000000 in
set_option maxRecDepth 100000 in
theorem proofBack_walk (L : List Stp) (s : ByteArray) (hs : s.size ≤ 9223372036854775807) (w : World) (ht : Tab w) (A : Option Addr) (c : Nat) (h : GS w A L) :
    Calls Tryz.prog 5 #[.slice A L.length c, .string s] w fun e w' => e = .returned (.bool true) ∧ Below w.heap.size w w' := by
  have HG := Lib.hid (great28g_ok L w A c h)
  have HWK := Lib.hid (fun w1 (h1 : Below w.heap.size w w1) => wakes_ok w1 (ht.keep h1))
  cases hg : greatM L with
  | true =>
    rw [hg] at HG
    clear h ht hg
    go_enter Tryz.func5, Tryz.ntmps5
    go_wp2_with (first
      | (go_at_call 8; (with_reducible refine HG.out.mono ?_); rintro e w1 ⟨rfl, rfl⟩)
      | (go_at_call 9; (with_reducible refine (HWK.out _ (Below.refl _ _)).mono ?_); rintro e w2 ⟨rfl, hb2⟩))
    go_ret
    exact ⟨rfl, hb2⟩
  | false =>
    rw [hg] at HG
    have hN := not_great hg
    have hk := h.kinds
    have h := h.steps hN
    clear hg
    by_cases h9 : 9000 < s.size
    · have d1 : decide ((s.size : Int) > 9000) = true := decide_eq_true (by omega)
      have d2 : decide ((9000 : Int) < s.size) = true := d1
      clear h9 h ht hN hk
      go_enter Tryz.func5, Tryz.ntmps5
      go_wp2_with (first
        | (go_at_call 8; (with_reducible refine HG.out.mono ?_); rintro e w1 ⟨rfl, rfl⟩)
        | (go_at_call 9; (with_reducible refine (HWK.out _ (Below.refl _ _)).mono ?_); rintro e w2 ⟨rfl, hb2⟩))
      go_ret
      exact ⟨rfl, hb2⟩
    · have d1 : decide ((s.size : Int) > 9000) = false := decide_eq_false (by omega)
      have d2 : decide ((9000 : Int) < s.size) = false := d1
      have hf := hN.fine hk
      have hr : L.all Stp.may = true → (proofX L).raw.length ≤ 40000000 := fun h => Nat.le_trans (hN.raw h) (by decide)
      have hLl : L.length ≤ 9223372036854775807 := by have := hN.len; omega
      have hL4 : L.length ≤ 4194304 := by have := hN.len; omega
      have HT := Lib.hid (fun w1 (h1 : Below w.heap.size w w1) => ht.keep h1)
      have HS := Lib.hid (fun w1 (h1 : Below w.heap.size w w1) => h.keep h1)
      have HSM := Lib.hid (fun (w1 : World) A B c d hA hB => rsame28_ok L L hLl w1 A B c d hA hB)
      rw [eqbs_refl] at HSM
      cases hm : L.all Stp.may with
      | true =>
        have hmay := all_may hm
        have hraw := hN.raw hm
        have hmass := hN.mass hmay
        have HA := Lib.hid (fun w1 (h1 : Below w.heap.size w w1) => (sexp_ok L hf w1 (HT.out w1 h1) A c (HS.out w1 h1)).mono fun e w' h => h.get hm)
        have HC := Lib.hid (fun w1 (h1 : Below w.heap.size w w1) => (ptext_ok L hf hr w1 (HT.out w1 h1) A c (HS.out w1 h1)).mono fun e w' h => text_yes hm h)
        have HPX := Lib.hid (fun w1 v (h1 : Lies (fun _ => True) w1 v (proofX L)) => (parsex_ok (proofX L) (by omega) v w1 h1).mono fun e w' h => h.got (parse_proof hmay hL4))
        obtain ⟨t, htt⟩ : ∃ t : ByteArray, (⟨(proofX L).raw.toArray⟩ : ByteArray) = t := ⟨_, rfl⟩
        have htb : byts t = (proofX L).raw := by rw [← htt]
        have hts : t.size ≤ 400000 := by rw [← byts_len, htb]; omega
        have HRT := Lib.hid (fun w1 => (readx_ok t (by omega) w1).mono fun e w' h => h.got (by rw [htb]; exact read_plain hmay hL4))
        have htd : byts ((⟨#[59, 32, 97, 10, 32]⟩ : ByteArray) ++ t ++ (⟨#[9, 59]⟩ : ByteArray)) = [59, 32, 97, 10, 32] ++ ((proofX L).raw ++ [9, 59]) := by rw [← htb]; simp [byts]
        have hds : ((⟨#[59, 32, 97, 10, 32]⟩ : ByteArray) ++ t ++ (⟨#[9, 59]⟩ : ByteArray)).size ≤ 500000 := by rw [← byts_len, htd, ← htb]; simp only [List.length_append, List.length_cons, List.length_nil, byts_len]; omega
        have HRD := Lib.hid (fun w1 => (readx_ok _ hds w1).mono fun e w' h => h.got (by rw [htd]; exact read_deco hmay hL4))
        rw [htt] at HC
        clear hmay hraw hmass htb htd hds hm hN hf hr h ht hk htt
        cases hrs : readS (byts s) with
        | none =>
          have HRS := Lib.hid (fun w1 => (readx_ok s (by omega) w1).mono fun e w' h => h.bad hrs)
          clear hrs h9
          go_enter Tryz.func5, Tryz.ntmps5
          go_wp2_with (first
            | (go_at_call 8; (with_reducible refine HG.out.mono ?_); rintro e w1 ⟨rfl, rfl⟩)
            | (go_at_call 10; (with_reducible refine (HA.out _ (Below.refl _ _)).mono ?_); rintro e w2 ⟨⟨y, hl, rfl⟩, hb2⟩; have hbk := Blk.new w2 28 #[.int .i8 y.k, .string y.t, .slice y.A y.n y.c]; have HL2 := Lib.hid ((hl.mono (S' := fun _ => True) (fun _ _ _ => True.intro)).keep ((Below.refl _ w2).alloc (Nat.le_refl _) (.cells #[.int .i8 y.k, .string y.t, .slice y.A y.n y.c] 28))); have HB2 := Lib.hid (hb2.alloc hb2.size (.cells #[.int .i8 y.k, .string y.t, .slice y.A y.n y.c] 28)); have HBK := Lib.hid hbk; clear hl hbk hb2)
            | (go_at_call 12; (with_reducible refine (HC.out _ HB2.out).mono ?_); rintro e w3 ⟨rfl, hb3⟩; have HB3 := Lib.hid (below_then HB2.out (Nat.le_refl _) hb3); have HL3 := Lib.hid (HL2.out.keep hb3); obtain ⟨x0, x1, x2, _⟩ := blk3 (HBK.out.below hb3 HBK.out.lt); clear hb3)
            | (go_at_call 16; refine (HPX.out _ _ HL3.out).mono ?_; rintro e w4 ⟨⟨A1, c1, rfl, hs1⟩, hb4⟩; have HB4 := Lib.hid (below_then HB3.out (Nat.le_refl _) hb4); have HP1 := Lib.hid hs1; clear hs1 hb4)
            | (go_at_call 18; (with_reducible refine (HRT.out w4).mono ?_); rintro e w5 ⟨⟨A2, c2, rfl, hs2⟩, hb5⟩; have HB5 := Lib.hid (below_then HB4.out (Nat.le_refl _) hb5); have HP2 := Lib.hid (HP1.out.keep hb5); have HQ2 := Lib.hid hs2; clear hs2 hb5)
            | (go_at_call 18; (with_reducible refine (HRD.out w5).mono ?_); rintro e w6 ⟨⟨A3, c3, rfl, hs3⟩, hb6⟩; have HB6 := Lib.hid (below_then HB5.out (Nat.le_refl _) hb6); have HP3 := Lib.hid (HP2.out.keep hb6); have HQ3 := Lib.hid (HQ2.out.keep hb6); have HR3 := Lib.hid hs3; clear hs3 hb6)
            | (go_at_call 20; (with_reducible refine (HSM.out w6 A1 A c1 c HP3.out (HS.out _ HB6.out)).mono ?_); rintro e w7 ⟨rfl, hb7⟩; have HB7 := Lib.hid (below_then HB6.out (Nat.le_refl _) hb7); have HQ4 := Lib.hid (HQ3.out.keep hb7); have HR4 := Lib.hid (HR3.out.keep hb7); clear hb7)
            | (go_at_call 20; (with_reducible refine (HSM.out w7 A2 A c2 c HQ4.out (HS.out _ HB7.out)).mono ?_); rintro e w8 ⟨rfl, hb8⟩; have HB8 := Lib.hid (below_then HB7.out (Nat.le_refl _) hb8); have HR5 := Lib.hid (HR4.out.keep hb8); clear hb8)
            | (go_at_call 20; (with_reducible refine (HSM.out w8 A3 A c3 c HR5.out (HS.out _ HB8.out)).mono ?_); rintro e w9 ⟨rfl, hb9⟩; have HB9 := Lib.hid (below_then HB8.out (Nat.le_refl _) hb9); clear hb9)
            | (go_at_call 18; (with_reducible refine (HRS.out w9).mono ?_); rintro e w10 ⟨rfl, hb10⟩; have HB10 := Lib.hid (below_then HB9.out (Nat.le_refl _) hb10); clear hb10)
            | (go_at_call 9; (with_reducible refine (HWK.out _ HB10.out).mono ?_); rintro e w11 ⟨rfl, hb11⟩))
          go_ret
          exact ⟨rfl, below_then HB10.out (Nat.le_refl _) hb11⟩
        | some m =>
          obtain ⟨hmm, hmr, hmf, hml⟩ := read_raw (by rw [byts_len]; omega) hrs
          have HRS := Lib.hid (fun w1 => (readx_ok s (by omega) w1).mono fun e w' h => h.got hrs)
          have HTM := Lib.hid (fun w1 (h1 : Below w.heap.size w w1) C k (h : Steps w1 C m) => (ptext_ok m hmf (fun _ => Nat.le_trans hmr (by decide)) w1 (HT.out w1 h1) C k h).mono fun e w' h => text_yes (may_all_ hmm) h)
          obtain ⟨u, hu⟩ : ∃ u : ByteArray, (⟨(proofX m).raw.toArray⟩ : ByteArray) = u := ⟨_, rfl⟩
          have hub : byts u = (proofX m).raw := by rw [← hu]
          have hus : u.size ≤ 500000 := by rw [← byts_len, hub]; omega
          rw [hu] at HTM
          have HRU := Lib.hid (fun w1 => (readx_ok u hus w1).mono fun e w' h => h.got (by rw [hub]; exact read_plain hmm (by omega)))
          have HSQ := Lib.hid (fun (w1 : World) A B c d hA hB => rsame28_ok m m (by omega) w1 A B c d hA hB)
          rw [eqbs_refl] at HSQ
          clear hrs h9 hmm hmr hmf hml hu hub hus
          go_enter Tryz.func5, Tryz.ntmps5
          go_wp2_with (first
            | (go_at_call 8; (with_reducible refine HG.out.mono ?_); rintro e w1 ⟨rfl, rfl⟩)
            | (go_at_call 10; (with_reducible refine (HA.out _ (Below.refl _ _)).mono ?_); rintro e w2 ⟨⟨y, hl, rfl⟩, hb2⟩; have hbk := Blk.new w2 28 #[.int .i8 y.k, .string y.t, .slice y.A y.n y.c]; have HL2 := Lib.hid ((hl.mono (S' := fun _ => True) (fun _ _ _ => True.intro)).keep ((Below.refl _ w2).alloc (Nat.le_refl _) (.cells #[.int .i8 y.k, .string y.t, .slice y.A y.n y.c] 28))); have HB2 := Lib.hid (hb2.alloc hb2.size (.cells #[.int .i8 y.k, .string y.t, .slice y.A y.n y.c] 28)); have HBK := Lib.hid hbk; clear hl hbk hb2)
            | (go_at_call 12; (with_reducible refine (HC.out _ HB2.out).mono ?_); rintro e w3 ⟨rfl, hb3⟩; have HB3 := Lib.hid (below_then HB2.out (Nat.le_refl _) hb3); have HL3 := Lib.hid (HL2.out.keep hb3); obtain ⟨x0, x1, x2, _⟩ := blk3 (HBK.out.below hb3 HBK.out.lt); clear hb3)
            | (go_at_call 16; refine (HPX.out _ _ HL3.out).mono ?_; rintro e w4 ⟨⟨A1, c1, rfl, hs1⟩, hb4⟩; have HB4 := Lib.hid (below_then HB3.out (Nat.le_refl _) hb4); have HP1 := Lib.hid hs1; clear hs1 hb4)
            | (go_at_call 18; (with_reducible refine (HRT.out w4).mono ?_); rintro e w5 ⟨⟨A2, c2, rfl, hs2⟩, hb5⟩; have HB5 := Lib.hid (below_then HB4.out (Nat.le_refl _) hb5); have HP2 := Lib.hid (HP1.out.keep hb5); have HQ2 := Lib.hid hs2; clear hs2 hb5)
            | (go_at_call 18; (with_reducible refine (HRD.out w5).mono ?_); rintro e w6 ⟨⟨A3, c3, rfl, hs3⟩, hb6⟩; have HB6 := Lib.hid (below_then HB5.out (Nat.le_refl _) hb6); have HP3 := Lib.hid (HP2.out.keep hb6); have HQ3 := Lib.hid (HQ2.out.keep hb6); have HR3 := Lib.hid hs3; clear hs3 hb6)
            | (go_at_call 20; (with_reducible refine (HSM.out w6 A1 A c1 c HP3.out (HS.out _ HB6.out)).mono ?_); rintro e w7 ⟨rfl, hb7⟩; have HB7 := Lib.hid (below_then HB6.out (Nat.le_refl _) hb7); have HQ4 := Lib.hid (HQ3.out.keep hb7); have HR4 := Lib.hid (HR3.out.keep hb7); clear hb7)
            | (go_at_call 20; (with_reducible refine (HSM.out w7 A2 A c2 c HQ4.out (HS.out _ HB7.out)).mono ?_); rintro e w8 ⟨rfl, hb8⟩; have HB8 := Lib.hid (below_then HB7.out (Nat.le_refl _) hb8); have HR5 := Lib.hid (HR4.out.keep hb8); clear hb8)
            | (go_at_call 20; (with_reducible refine (HSM.out w8 A3 A c3 c HR5.out (HS.out _ HB8.out)).mono ?_); rintro e w9 ⟨rfl, hb9⟩; have HB9 := Lib.hid (below_then HB8.out (Nat.le_refl _) hb9); clear hb9)
            | (go_at_call 18; (with_reducible refine (HRS.out w9).mono ?_); rintro e w10 ⟨⟨A5, c5, rfl, hs5⟩, hb10⟩; have HB10 := Lib.hid (below_then HB9.out (Nat.le_refl _) hb10); have HM1 := Lib.hid hs5; clear hs5 hb10)
            | (go_at_call 12; (with_reducible refine (HTM.out _ HB10.out _ _ HM1.out).mono ?_); rintro e w11 ⟨rfl, hb11⟩; have HB11 := Lib.hid (below_then HB10.out (Nat.le_refl _) hb11); have HM2 := Lib.hid (HM1.out.keep hb11); clear hb11)
            | (go_at_call 18; (with_reducible refine (HRU.out w11).mono ?_); rintro e w12 ⟨⟨A6, c6, rfl, hs6⟩, hb12⟩; have HB12 := Lib.hid (below_then HB11.out (Nat.le_refl _) hb12); have HM3 := Lib.hid (HM2.out.keep hb12); have HN3 := Lib.hid hs6; clear hs6 hb12)
            | (go_at_call 20; (with_reducible refine (HSQ.out w12 A5 A6 c5 c6 HM3.out HN3.out).mono ?_); rintro e w13 ⟨rfl, hb13⟩; have HB13 := Lib.hid (below_then HB12.out (Nat.le_refl _) hb13); clear hb13)
            | (go_at_call 9; (with_reducible refine (HWK.out _ HB13.out).mono ?_); rintro e w14 ⟨rfl, hb14⟩))
          go_ret
          exact ⟨rfl, below_then HB13.out (Nat.le_refl _) hb14⟩
      | false =>
        have HA := Lib.hid (fun w1 (h1 : Below w.heap.size w w1) => (sexp_ok L hf w1 (HT.out w1 h1) A c (HS.out w1 h1)).mono fun e w' h => h.not hm)
        have HC := Lib.hid (fun w1 (h1 : Below w.heap.size w w1) => (ptext_ok L hf hr w1 (HT.out w1 h1) A c (HS.out w1 h1)).mono fun e w' h => text_no hm h)
        unfold zeroX at HA
        clear hm hN hf hr h ht hk
        cases hrs : readS (byts s) with
        | none =>
          have HRS := Lib.hid (fun w1 => (readx_ok s (by omega) w1).mono fun e w' h => h.bad hrs)
          clear hrs h9
          go_enter Tryz.func5, Tryz.ntmps5
          go_wp2_with (first
            | (go_at_call 8; (with_reducible refine HG.out.mono ?_); rintro e w1 ⟨rfl, rfl⟩)
            | (go_at_call 10; (with_reducible refine (HA.out _ (Below.refl _ _)).mono ?_); rintro e w2 ⟨rfl, hb2⟩; have HB2 := Lib.hid (hb2.alloc hb2.size (.cells #[.int .i8 0, .string ⟨#[]⟩, .slice none 0 0] 28)); clear hb2)
            | (go_at_call 12; (with_reducible refine (HC.out _ HB2.out).mono ?_); rintro e w3 ⟨rfl, hb3⟩; have HB3 := Lib.hid (below_then HB2.out (Nat.le_refl _) hb3); clear hb3)
            | (go_at_call 18; (with_reducible refine (HRS.out w3).mono ?_); rintro e w4 ⟨rfl, hb4⟩; have HB4 := Lib.hid (below_then HB3.out (Nat.le_refl _) hb4); clear hb4)
            | (go_at_call 9; (with_reducible refine (HWK.out _ HB4.out).mono ?_); rintro e w5 ⟨rfl, hb5⟩))
          go_ret
          exact ⟨rfl, below_then HB4.out (Nat.le_refl _) hb5⟩
        | some m =>
          obtain ⟨hmm, hmr, hmf, hml⟩ := read_raw (by rw [byts_len]; omega) hrs
          have HRS := Lib.hid (fun w1 => (readx_ok s (by omega) w1).mono fun e w' h => h.got hrs)
          have HTM := Lib.hid (fun w1 (h1 : Below w.heap.size w w1) C k (h : Steps w1 C m) => (ptext_ok m hmf (fun _ => Nat.le_trans hmr (by decide)) w1 (HT.out w1 h1) C k h).mono fun e w' h => text_yes (may_all_ hmm) h)
          obtain ⟨u, hu⟩ : ∃ u : ByteArray, (⟨(proofX m).raw.toArray⟩ : ByteArray) = u := ⟨_, rfl⟩
          have hub : byts u = (proofX m).raw := by rw [← hu]
          have hus : u.size ≤ 500000 := by rw [← byts_len, hub]; omega
          rw [hu] at HTM
          have HRU := Lib.hid (fun w1 => (readx_ok u hus w1).mono fun e w' h => h.got (by rw [hub]; exact read_plain hmm (by omega)))
          have HSQ := Lib.hid (fun (w1 : World) A B c d hA hB => rsame28_ok m m (by omega) w1 A B c d hA hB)
          rw [eqbs_refl] at HSQ
          clear hrs h9 hmm hmr hmf hml hu hub hus
          go_enter Tryz.func5, Tryz.ntmps5
          go_wp2_with (first
            | (go_at_call 8; (with_reducible refine HG.out.mono ?_); rintro e w1 ⟨rfl, rfl⟩)
            | (go_at_call 10; (with_reducible refine (HA.out _ (Below.refl _ _)).mono ?_); rintro e w2 ⟨rfl, hb2⟩; have HB2 := Lib.hid (hb2.alloc hb2.size (.cells #[.int .i8 0, .string ⟨#[]⟩, .slice none 0 0] 28)); clear hb2)
            | (go_at_call 12; (with_reducible refine (HC.out _ HB2.out).mono ?_); rintro e w3 ⟨rfl, hb3⟩; have HB3 := Lib.hid (below_then HB2.out (Nat.le_refl _) hb3); clear hb3)
            | (go_at_call 18; (with_reducible refine (HRS.out w3).mono ?_); rintro e w4 ⟨⟨A5, c5, rfl, hs5⟩, hb4⟩; have HB4 := Lib.hid (below_then HB3.out (Nat.le_refl _) hb4); have HM1 := Lib.hid hs5; clear hs5 hb4)
            | (go_at_call 12; (with_reducible refine (HTM.out _ HB4.out _ _ HM1.out).mono ?_); rintro e w5 ⟨rfl, hb5⟩; have HB5 := Lib.hid (below_then HB4.out (Nat.le_refl _) hb5); have HM2 := Lib.hid (HM1.out.keep hb5); clear hb5)
            | (go_at_call 18; (with_reducible refine (HRU.out w5).mono ?_); rintro e w6 ⟨⟨A6, c6, rfl, hs6⟩, hb6⟩; have HB6 := Lib.hid (below_then HB5.out (Nat.le_refl _) hb6); have HM3 := Lib.hid (HM2.out.keep hb6); have HN3 := Lib.hid hs6; clear hs6 hb6)
            | (go_at_call 20; (with_reducible refine (HSQ.out w6 A5 A6 c5 c6 HM3.out HN3.out).mono ?_); rintro e w7 ⟨rfl, hb7⟩; have HB7 := Lib.hid (below_then HB6.out (Nat.le_refl _) hb7); clear hb7)
            | (go_at_call 9; (with_reducible refine (HWK.out _ HB7.out).mono ?_); rintro e w8 ⟨rfl, hb8⟩))
          go_ret
          exact ⟨rfl, below_then HB7.out (Nat.le_refl _) hb8⟩
theorem proofBack_in (x : (Option Addr × Nat) × List Stp) (s : ByteArray) (w : World) (ht : Tab w) (h : GS w x.1.1 x.2) (hs : s.size ≤ maxLen) :
    Calls Tryz.prog 5 #[.slice x.1.1 x.2.length x.1.2, .string s] w fun e w' => e = .returned (.bool true) ∧ Below w.heap.size w w' := proofBack_walk x.2 s (by unfold maxLen at hs; omega) w ht x.1.1 x.1.2 h
end Go.Proofs.YtiklliiamljogaaGreatDoor

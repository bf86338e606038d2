/- SexprJoined: texts put together. -/
import Derived.Test.YtephhendkmhggaaGlueC
import Derived.Deep.QuietTactic
namespace Go.Proofs.Ytephhendkmhggaa
open Go.RowKit

theorem wpQuiet_want {P : Program} {ops : Array Oper} {C : World → Prop} {Q : Act → Prop} {a : Act} {o : Oper} {rest : List Oper} (hw : Region.wanted o (yielded ops a.tmps) = true) (v : Value) (h1 : ∀ w, C w → o.quietAt P a C w v) (h2 : wpQuiet P ops C Q rest (a.put o.dst v)) : wpQuiet P ops C Q (o :: rest) a := by
  unfold wpQuiet
  rw [if_pos hw]
  exact ⟨v, h1, h2⟩
theorem wpQuiet_skip {P : Program} {ops : Array Oper} {C : World → Prop} {Q : Act → Prop} {a : Act} {o : Oper} {rest : List Oper} (hw : Region.wanted o (yielded ops a.tmps) = false) (h2 : wpQuiet P ops C Q rest (a.put o.dst undef)) : wpQuiet P ops C Q (o :: rest) a := by
  unfold wpQuiet
  rw [if_neg (by rw [hw]; decide)]
  exact h2
/-- All: the slice is a list of what was read. -/
def AllList (R : List Sx × Nat × Int) (w w' : World) (e : Ending) : Prop := (∃ A c, R.1.length ≤ c ∧ Lies (fun _ => True) w' (.agg #[.int .i8 3, .string ⟨#[]⟩, .slice A R.1.length c]) (.mk 3 [] R.1) ∧ e = .returned (.tuple #[.slice A R.1.length c, .int .i64 R.2.1, .int .i64 R.2.2])) ∧ Below w.heap.size w w'
theorem All_list (s : ByteArray) (hs : s.size ≤ 1000000) (w : World) : Calls Try.prog 12 #[.string s] w fun e w' => AllList (allM (byts s)) w w' e := by
  refine (all_ok3 s w hs).mono ?_
  rintro e w' ⟨⟨sv, cs, ha, rfl⟩, hb⟩
  unfold allM
  rw [byts_len]
  have hn := allF_len (byts s) (s.size + 1) 0 [] (Nat.zero_le _) (Nat.zero_le _)
  rw [byts_len] at hn
  have hl := ha.lies (by omega)
  obtain ⟨A, c, rfl, hlc, hk⟩ := ha.row (by omega)
  exact ⟨⟨A, c, hlc, hl.mono (fun _ _ _ => True.intro), rfl⟩, hb⟩
theorem Lies.kids {S : Nat → Prop} {w : World} {A : Option Addr} {n c : Nat} {k : Int} {t : ByteArray} {T : List UInt8} {l : List Sx} (h : Lies S w (.agg #[.int .i8 k, .string t, .slice A n c]) (.mk k T l)) : Kids S w A l := by
  obtain ⟨t', A', c', hv, _, _, _, _, hk⟩ := h.open_
  injection hv with e
  injection e with e
  injection e with _ e
  injection e with _ e
  injection e with e2 e
  injection e2 with a1 a2 a3
  subst a1
  exact hk

set_option maxHeartbeats 4000000 in
set_option maxRecDepth 100000 in
theorem joined_ok (s t : ByteArray) (w : World) (h1 : s.size ≤ 1000) (h2 : t.size ≤ 1000) (hs0 : (allM (byts s)).2.2 = 0) (ht0 : (allM (byts t)).2.2 = 0) :
    Calls Try.prog 7 #[.string s, .string t] w fun e w' => e = .returned (.bool true) ∧ Below w.heap.size w w' := by
  have d1 : decide ((s.size : Int) > 1000) = false := decide_eq_false (by omega)
  have d1' : decide ((1000 : Int) < s.size) = false := d1
  have d2 : decide ((t.size : Int) > 1000) = false := decide_eq_false (by omega)
  have d2' : decide ((1000 : Int) < t.size) = false := d2
  obtain ⟨q, hq⟩ : ∃ q, (s ++ ⟨#[10]⟩ : ByteArray) ++ t = q := ⟨_, rfl⟩
  have hqb : byts q = byts s ++ 10 :: byts t := by rw [← hq]; simp [byts]
  have hqs : q.size ≤ 1000000 := by rw [← byts_len, hqb, List.length_append, byts_len, List.length_cons, byts_len]; omega
  have HS := Lib.hid (All_list s (by omega))
  have HT := Lib.hid (All_list t (by omega))
  have HQ := Lib.hid (All_list q hqs)
  rw [hqb, allM_glue (byts s) (byts t) hs0, allM_end (byts t) ht0, ht0, byts_len, byts_len] at HQ
  have hse := allM_end (byts s) hs0
  have hte := allM_end (byts t) ht0
  have hsl := allM_len (byts s)
  have htl := allM_len (byts t)
  have hsd := allM_depth (byts s)
  have htd := allM_depth (byts t)
  rw [byts_len] at hse hte hsl htl
  obtain ⟨⟨X, m, ec⟩, hX⟩ : ∃ R, allM (byts s) = R := ⟨_, rfl⟩
  obtain ⟨⟨Y, m', ec'⟩, hY⟩ : ∃ R, allM (byts t) = R := ⟨_, rfl⟩
  rw [hX] at HS HQ hs0 hse hsl hsd
  rw [hY] at HT HQ ht0 hte htl htd
  dsimp only at HQ hs0 ht0 hse hte hsl htl hsd htd
  subst hs0 ht0 hse hte
  obtain ⟨Z, hZ⟩ : ∃ Z, X ++ Y = Z := ⟨_, rfl⟩
  obtain ⟨me, hme⟩ : ∃ me, s.size + 1 + t.size = me := ⟨_, rfl⟩
  rw [hZ, hme] at HQ
  have hzl : Z.length = X.length + Y.length := by rw [← hZ, List.length_append]
  have hzd : ∀ y ∈ Z, y.depth ≤ 60 := fun y hy => by
    rw [← hZ] at hy
    rcases List.mem_append.1 hy with hy | hy
    · exact hsd y hy
    · exact htd y hy
  have hds : Sx.depths Z ≤ 60 := by
    clear HQ hzl hZ
    induction Z with
    | nil => simp [Sx.depths]
    | cons x r ih =>
      have a := hzd x (List.mem_cons_self ..)
      have b := ih (fun y hy => hzd y (List.mem_cons_of_mem _ hy))
      show max x.depth (Sx.depths r) ≤ 60
      omega
  have e1 : ((me : Int) != (s.size : Int) + 1 + t.size) = false := by rw [← hme]; simp
  have e2 : ((Z.length : Int) != (X.length : Int) + Y.length) = false := by rw [hzl]; simp
  have HZ := Lib.hid hZ
  have HZD := Lib.hid hzd
  have HZL := Lib.hid hzl
  have HME := Lib.hid hme
  have HW := Lib.hid wakes_ok
  have hz31 : Z.length ≤ 3000 := by omega
  clear hX hY hZ hsd htd hzd hqb hme hzl
  go_enter Try.func7, Try.ntmps7
  go_wp2_with (first
    | (go_at_call 12; (with_reducible refine (HS.out _).mono ?_); rintro e w1 ⟨⟨A, c, hlc, hl1, rfl⟩, hb1⟩; have HL1 := Lib.hid hl1; clear hl1)
    | (go_at_call 12; (with_reducible refine (HT.out _).mono ?_); rintro e w2 ⟨⟨B, d, hld, hl2, rfl⟩, hb2⟩; have HL2 := Lib.hid hl2; have HL12 := Lib.hid (HL1.out.keep hb2); clear hl2)
    | (go_at_call 12; (with_reducible refine (HQ.out _).mono ?_); rintro e w3 ⟨⟨C, f, hlf, hl3, rfl⟩, hb3⟩; have HL3 := Lib.hid hl3; have HL13 := Lib.hid (HL12.out.keep hb3); have HL23 := Lib.hid (HL2.out.keep hb3); clear hl3))
  have hbb := below_then (below_then hb1 (Nat.le_refl _) hb2) (Nat.le_refl _) hb3
  have HB0 := Lib.hid hbb
  clear hbb hb1 hb2 hb3
  go_loopw [87, 14] (fun v dd wx => Below w3.heap.size w3 wx ∧ ∃ i : Nat, i ≤ Z.length ∧ v = .int .i64 i ∧ dd = .int .i64 (Sx.depths (Z.take i))) (fun v _ _ => (Z.length - intOf v).toNat)
  case atStart => exact ⟨Below.refl _ _, 0, Nat.zero_le _, rfl, rfl⟩
  case round =>
    obtain ⟨hB, i, hi, rfl, rfl⟩ := hrel
    by_cases hin : i < Z.length
    · have hiz : (i : Int) < (Z.length : Int) := by omega
      have d3 : decide ((i : Int) < Z.length) = true := decide_eq_true hiz
      obtain ⟨b, off, k1, t1, B1, n1, m1, rfl, _, hlt, x0, x1, x2, hy⟩ := (HL3.out.kids.keep hB) i hin
      by_cases hix : i < X.length
      · -- one of the first text's
        have d4 : decide ((i : Int) < X.length) = true := decide_eq_true (by omega)
        have d5 : decide ((i : Int) ≥ X.length) = false := decide_eq_false (by omega)
        have d5' : decide ((X.length : Int) ≤ i) = false := d5
        have hix2 : (i : Int) < X.length := by omega
        have Hd6 := Lib.hid (show decide (X.length ≤ i) = false from decide_eq_false (by omega))
        obtain ⟨bx, ox, kx, tx, Bx, nx, mx, rfl, _, hltx, z0, z1, z2, hzx⟩ := (HL13.out.kids.keep hB) i hix
        have hel : Z[i] = X[i] := by
          have := HZ.out
          subst this
          exact List.getElem_append_left hix
        have hib : Below wr.heap.size wr (wr.alloc (.cells #[.int .i8 k1, .string t1, .slice B1 n1 m1] 26)) := (Below.refl _ wr).alloc (Nat.le_refl _) _
        have hlt1 : Below wr.heap.size wr (wr.alloc (.cells #[.int .i8 k1, .string t1, .slice B1 n1 m1] 26)).drew := hib.drew
        have HLY := Lib.hid (hy.keep hlt1)
        have HLZ := Lib.hid (hzx.keep hlt1)
        have HLD := Lib.hid (hy.keep hib)
        have HLX := Lib.hid (hzx.keep hib)
        have HSI : Hid (∀ (v v' : Value) (w : World), Lies (fun _ => True) w v (Z[i]) → Lies (fun _ => True) w v' (X[i]) → Calls Try.prog 21 #[v, v'] w fun e w' => e = .returned (.bool true) ∧ Below w.heap.size w w') := Lib.hid fun v v' w h h' => (same_at (Z[i]) (X[i]) v v' w h h').mono (by rw [hel, same_refl]; exact fun _ _ h => h)
        have y0 := (hib.cell (p := ⟨bx, ox + i * 3, none⟩) hltx).trans z0
        have y1 := (hib.cell (p := ⟨bx, ox + i * 3 + 1, none⟩) hltx).trans z1
        have y2 := (hib.cell (p := ⟨bx, ox + i * 3 + 2, none⟩) hltx).trans z2
        have hbn := Blk.new wr 26 #[.int .i8 k1, .string t1, .slice B1 n1 m1]
        have hKP : ∀ w1 : World, Below (wr.alloc (.cells #[.int .i8 k1, .string t1, .slice B1 n1 m1] 26)).heap.size (wr.alloc (.cells #[.int .i8 k1, .string t1, .slice B1 n1 m1] 26)) w1 → w1.cell? ⟨wr.heap.size, 0, none⟩ = some (.int .i8 k1) ∧ w1.cell? ⟨wr.heap.size, 1, none⟩ = some (.string t1) ∧ w1.cell? ⟨wr.heap.size, 2, none⟩ = some (.slice B1 n1 m1) ∧ w1.cell? ⟨bx, ox + i * 3, none⟩ = some (.int .i8 kx) ∧ w1.cell? ⟨bx, ox + i * 3 + 1, none⟩ = some (.string tx) ∧ w1.cell? ⟨bx, ox + i * 3 + 2, none⟩ = some (.slice Bx nx mx) := fun w1 h1 => by
          have hh := hbn.below h1 hbn.lt
          have hl2 : bx < (wr.alloc (.cells #[.int .i8 k1, .string t1, .slice B1 n1 m1] 26)).heap.size := Nat.lt_of_lt_of_le hltx hib.size
          exact ⟨hh.cell 0, hh.cell 1, hh.cell 2, (h1.cell (p := ⟨bx, ox + i * 3, none⟩) hl2).trans y0, (h1.cell (p := ⟨bx, ox + i * 3 + 1, none⟩) hl2).trans y1, (h1.cell (p := ⟨bx, ox + i * 3 + 2, none⟩) hl2).trans y2⟩
        have HKP := Lib.hid hKP
        have HIB := Lib.hid hib
        have HDD := Lib.hid (depth_ok (S := fun _ => True) (Z[i]) (by have := HZD.out _ (List.getElem_mem hin); omega))
        have HTK := Lib.hid (depths_take Z i hin)
        have HNE : wr.heap.size ≠ bx := by omega
        have HNE2 := HNE.symm
        have HBB := Lib.hid hB
        obtain ⟨dz, hdz⟩ : ∃ dz, (Z[i]).depth = dz := ⟨_, rfl⟩
        obtain ⟨dt, hdt⟩ : ∃ dt, Sx.depths (Z.take i) = dt := ⟨_, rfl⟩
        rw [hdz] at HDD HTK
        rw [hdt] at HTK ⊢
        clear hy hzx hel hKP hib hlt1 hdz hdt hB hbn
        go_wp2
        refine wp_region_quiet (C := fun w' => Below (wr.alloc (.cells #[.int .i8 k1, .string t1, .slice B1 n1 m1] 26)).heap.size (wr.alloc (.cells #[.int .i8 k1, .string t1, .slice B1 n1 m1] 26)) w') (by kernel_rfl) (by kernel_rfl) ((Below.refl _ _).drew) ?_
        rw [List.toList_toArray]
        refine wpQuiet_want rfl ?_ (fun w' hw' => ?_) ?_
        rotate_left
        · obtain ⟨j2, j3, j4, j5, j6, j7⟩ := HKP.out w' hw'
          unfold Oper.quietAt
          go_simp
          exact rfl
        simp only [Act.put, List.setIfInBounds_toArray, List.set_cons_succ, List.set_cons_zero]
        refine wpQuiet_want rfl ?_ (fun w' hw' => ?_) ?_
        rotate_left
        · obtain ⟨j2, j3, j4, j5, j6, j7⟩ := HKP.out w' hw'
          unfold Oper.quietAt
          go_simp
          exact rfl
        simp only [Act.put, List.setIfInBounds_toArray, List.set_cons_succ, List.set_cons_zero]
        refine wpQuiet_want rfl ?_ (fun w' hw' => ?_) ?_
        rotate_left
        · obtain ⟨j2, j3, j4, j5, j6, j7⟩ := HKP.out w' hw'
          unfold Oper.quietAt
          go_simp
          exact rfl
        simp only [Act.put, List.setIfInBounds_toArray, List.set_cons_succ, List.set_cons_zero]
        refine wpQuiet_want rfl ?_ (fun w' hw' => ?_) ?_
        rotate_left
        · obtain ⟨j2, j3, j4, j5, j6, j7⟩ := HKP.out w' hw'
          unfold Oper.quietAt
          go_simp
          exact rfl
        simp only [Act.put, List.setIfInBounds_toArray, List.set_cons_succ, List.set_cons_zero]
        refine wpQuiet_want rfl ?_ (fun w' hw' => ?_) ?_
        rotate_left
        · obtain ⟨j2, j3, j4, j5, j6, j7⟩ := HKP.out w' hw'
          unfold Oper.quietAt
          go_simp
          exact rfl
        simp only [Act.put, List.setIfInBounds_toArray, List.set_cons_succ, List.set_cons_zero]
        refine wpQuiet_want rfl ?_ (fun w' hw' => ?_) ?_
        rotate_left
        · obtain ⟨j2, j3, j4, j5, j6, j7⟩ := HKP.out w' hw'
          unfold Oper.quietAt
          go_simp
          exact rfl
        simp only [Act.put, List.setIfInBounds_toArray, List.set_cons_succ, List.set_cons_zero]
        refine wpQuiet_want rfl ?_ (fun w' hw' => ?_) ?_
        rotate_left
        · obtain ⟨j2, j3, j4, j5, j6, j7⟩ := HKP.out w' hw'
          unfold Oper.quietAt
          go_simp
          exact rfl
        simp only [Act.put, List.setIfInBounds_toArray, List.set_cons_succ, List.set_cons_zero]
        refine wpQuiet_want rfl ?_ (fun w' hw' => ?_) ?_
        rotate_left
        · obtain ⟨j2, j3, j4, j5, j6, j7⟩ := HKP.out w' hw'
          unfold Oper.quietAt
          go_simp
          exact rfl
        simp only [Act.put, List.setIfInBounds_toArray, List.set_cons_succ, List.set_cons_zero]
        refine wpQuiet_want rfl ?_ (fun w' hw' => ?_) ?_
        rotate_left
        · obtain ⟨j2, j3, j4, j5, j6, j7⟩ := HKP.out w' hw'
          unfold Oper.quietAt
          go_simp
          exact rfl
        simp only [Act.put, List.setIfInBounds_toArray, List.set_cons_succ, List.set_cons_zero]
        refine wpQuiet_want rfl ?_ (fun w' hw' => ?_) ?_
        rotate_left
        · obtain ⟨j2, j3, j4, j5, j6, j7⟩ := HKP.out w' hw'
          unfold Oper.quietAt
          go_simp
          exact rfl
        simp only [Act.put, List.setIfInBounds_toArray, List.set_cons_succ, List.set_cons_zero]
        refine wpQuiet_want rfl (.bool true) (fun w' hw' => ?_) ?_
        · obtain ⟨j2, j3, j4, j5, j6, j7⟩ := HKP.out w' hw'
          unfold Oper.quietAt
          go_simp
          refine (HSI.out _ _ w' (HLD.out.keep hw') (HLX.out.keep hw')).mono ?_
          rintro e w2 ⟨rfl, hb⟩
          have hz := hw'.trans (hb.mono hw'.size)
          exact ⟨rfl, by simpa using hz⟩
        simp only [Act.put, List.setIfInBounds_toArray, List.set_cons_succ, List.set_cons_zero]
        refine wpQuiet_want rfl ?_ (fun w' hw' => ?_) ?_
        rotate_left
        · obtain ⟨j2, j3, j4, j5, j6, j7⟩ := HKP.out w' hw'
          unfold Oper.quietAt
          go_simp
          exact rfl
        simp only [Act.put, List.setIfInBounds_toArray, List.set_cons_succ, List.set_cons_zero]
        refine wpQuiet_want rfl ?_ (fun w' hw' => ?_) ?_
        rotate_left
        · obtain ⟨j2, j3, j4, j5, j6, j7⟩ := HKP.out w' hw'
          unfold Oper.quietAt
          go_simp
          exact rfl
        simp only [Act.put, List.setIfInBounds_toArray, List.set_cons_succ, List.set_cons_zero]
        refine wpQuiet_want rfl ?_ (fun w' hw' => ?_) ?_
        rotate_left
        · obtain ⟨j2, j3, j4, j5, j6, j7⟩ := HKP.out w' hw'
          unfold Oper.quietAt
          go_simp
          exact rfl
        simp only [Act.put, List.setIfInBounds_toArray, List.set_cons_succ, List.set_cons_zero]
        refine wpQuiet_want rfl ?_ (fun w' hw' => ?_) ?_
        rotate_left
        · obtain ⟨j2, j3, j4, j5, j6, j7⟩ := HKP.out w' hw'
          unfold Oper.quietAt
          go_simp
          exact rfl
        simp only [Act.put, List.setIfInBounds_toArray, List.set_cons_succ, List.set_cons_zero]
        refine wpQuiet_want rfl ?_ (fun w' hw' => ?_) ?_
        rotate_left
        · obtain ⟨j2, j3, j4, j5, j6, j7⟩ := HKP.out w' hw'
          unfold Oper.quietAt
          go_simp
          exact rfl
        simp only [Act.put, List.setIfInBounds_toArray, List.set_cons_succ, List.set_cons_zero]
        refine wpQuiet_want rfl ?_ (fun w' hw' => ?_) ?_
        rotate_left
        · obtain ⟨j2, j3, j4, j5, j6, j7⟩ := HKP.out w' hw'
          unfold Oper.quietAt
          go_simp
          exact rfl
        simp only [Act.put, List.setIfInBounds_toArray, List.set_cons_succ, List.set_cons_zero]
        refine wpQuiet_want rfl ?_ (fun w' hw' => ?_) ?_
        rotate_left
        · obtain ⟨j2, j3, j4, j5, j6, j7⟩ := HKP.out w' hw'
          unfold Oper.quietAt
          go_simp
          exact rfl
        simp only [Act.put, List.setIfInBounds_toArray, List.set_cons_succ, List.set_cons_zero]
        refine wpQuiet_want rfl ?_ (fun w' hw' => ?_) ?_
        rotate_left
        · obtain ⟨j2, j3, j4, j5, j6, j7⟩ := HKP.out w' hw'
          unfold Oper.quietAt
          go_simp
          exact rfl
        simp only [Act.put, List.setIfInBounds_toArray, List.set_cons_succ, List.set_cons_zero]
        refine wpQuiet_skip (by rw [Hd6.out]; rfl) ?_
        simp only [Act.put, List.setIfInBounds_toArray, List.set_cons_succ, List.set_cons_zero]
        refine wpQuiet_skip (by rw [Hd6.out]; rfl) ?_
        simp only [Act.put, List.setIfInBounds_toArray, List.set_cons_succ, List.set_cons_zero]
        refine wpQuiet_skip (by rw [Hd6.out]; rfl) ?_
        simp only [Act.put, List.setIfInBounds_toArray, List.set_cons_succ, List.set_cons_zero]
        refine wpQuiet_skip (by rw [Hd6.out]; rfl) ?_
        simp only [Act.put, List.setIfInBounds_toArray, List.set_cons_succ, List.set_cons_zero]
        refine wpQuiet_skip (by rw [Hd6.out]; rfl) ?_
        simp only [Act.put, List.setIfInBounds_toArray, List.set_cons_succ, List.set_cons_zero]
        refine wpQuiet_skip (by rw [Hd6.out]; rfl) ?_
        simp only [Act.put, List.setIfInBounds_toArray, List.set_cons_succ, List.set_cons_zero]
        refine wpQuiet_skip (by rw [Hd6.out]; rfl) ?_
        simp only [Act.put, List.setIfInBounds_toArray, List.set_cons_succ, List.set_cons_zero]
        refine wpQuiet_skip (by rw [Hd6.out]; rfl) ?_
        simp only [Act.put, List.setIfInBounds_toArray, List.set_cons_succ, List.set_cons_zero]
        refine wpQuiet_skip (by rw [Hd6.out]; rfl) ?_
        simp only [Act.put, List.setIfInBounds_toArray, List.set_cons_succ, List.set_cons_zero]
        refine wpQuiet_skip (by rw [Hd6.out]; rfl) ?_
        simp only [Act.put, List.setIfInBounds_toArray, List.set_cons_succ, List.set_cons_zero]
        refine wpQuiet_want rfl (.bool false) (fun w' hw' => ?_) ?_
        · unfold Oper.quietAt
          rw [Hd6.out]
          go_simp
        simp only [Act.put, List.setIfInBounds_toArray, List.set_cons_succ, List.set_cons_zero]
        refine wpQuiet_want rfl (.bool false) (fun w' hw' => ?_) ?_
        · unfold Oper.quietAt
          rw [Hd6.out]
          go_simp
        simp only [Act.put, List.setIfInBounds_toArray, List.set_cons_succ, List.set_cons_zero]
        refine wpQuiet_nil ?_
        intro w6 hb7
        obtain ⟨j2, j3, j4, j5, j6, j7⟩ := HKP.out w6 hb7
        go_wp2_with (go_at_call 19; refine (HDD.out _ _ (HLD.out.keep hb7)).mono ?_; rintro e w7 ⟨rfl, hb8⟩)
        go_roundw
        case rel =>
          refine ⟨below_then (below_then (HBB.out.trans (HIB.out.mono HBB.out.size)) (Nat.le_refl _) hb7) (Nat.le_refl _) hb8, i + 1, by omega, by go_num, ?_⟩
          rw [HTK.out]
          congr 1
          omega
        case measure => simp only [intOf]; omega
      · -- one of the second's
        have Hd6 := Lib.hid (show decide (X.length ≤ i) = true from decide_eq_true (by omega))
        have Hd7 := Lib.hid (show decide (i < X.length) = false from decide_eq_false (by omega))
        obtain ⟨j, hj⟩ : ∃ j : Nat, i - X.length = j := ⟨_, rfl⟩
        have hjz : (i : Int) - X.length = j := by omega
        have hjy : j < Y.length := by have := HZL.out; omega
        have hjy2 : (j : Int) < Y.length := by omega
        have HJ := Lib.hid hj
        have hjw : IntKind.i64.wrap (j : Int) = j := by rw [IntKind.wrap_i64]; omega
        have hj0 : (0 : Int) ≤ j := by omega
        obtain ⟨bx, ox, kx, tx, Bx, nx, mx, rfl, _, hltx, z0, z1, z2, hzx⟩ := (HL23.out.kids.keep hB) j hjy
        have hel : Z[i] = Y[j] := by
          have := HZ.out
          subst this
          rw [List.getElem_append_right (by omega)]
          simp only [hj]
        clear hj
        have hib : Below wr.heap.size wr (wr.alloc (.cells #[.int .i8 k1, .string t1, .slice B1 n1 m1] 26)) := (Below.refl _ wr).alloc (Nat.le_refl _) _
        have hlt1 : Below wr.heap.size wr (wr.alloc (.cells #[.int .i8 k1, .string t1, .slice B1 n1 m1] 26)).drew := hib.drew
        have HLY := Lib.hid (hy.keep hlt1)
        have HLZ := Lib.hid (hzx.keep hlt1)
        have HLD := Lib.hid (hy.keep hib)
        have HLX := Lib.hid (hzx.keep hib)
        have HSI : Hid (∀ (v v' : Value) (w : World), Lies (fun _ => True) w v (Z[i]) → Lies (fun _ => True) w v' (Y[j]) → Calls Try.prog 21 #[v, v'] w fun e w' => e = .returned (.bool true) ∧ Below w.heap.size w w') := Lib.hid fun v v' w h h' => (same_at (Z[i]) (Y[j]) v v' w h h').mono (by rw [hel, same_refl]; exact fun _ _ h => h)
        have y0 := (hib.cell (p := ⟨bx, ox + j * 3, none⟩) hltx).trans z0
        have y1 := (hib.cell (p := ⟨bx, ox + j * 3 + 1, none⟩) hltx).trans z1
        have y2 := (hib.cell (p := ⟨bx, ox + j * 3 + 2, none⟩) hltx).trans z2
        have hbn := Blk.new wr 26 #[.int .i8 k1, .string t1, .slice B1 n1 m1]
        have hKP : ∀ w1 : World, Below (wr.alloc (.cells #[.int .i8 k1, .string t1, .slice B1 n1 m1] 26)).heap.size (wr.alloc (.cells #[.int .i8 k1, .string t1, .slice B1 n1 m1] 26)) w1 → w1.cell? ⟨wr.heap.size, 0, none⟩ = some (.int .i8 k1) ∧ w1.cell? ⟨wr.heap.size, 1, none⟩ = some (.string t1) ∧ w1.cell? ⟨wr.heap.size, 2, none⟩ = some (.slice B1 n1 m1) ∧ w1.cell? ⟨bx, ox + j * 3, none⟩ = some (.int .i8 kx) ∧ w1.cell? ⟨bx, ox + j * 3 + 1, none⟩ = some (.string tx) ∧ w1.cell? ⟨bx, ox + j * 3 + 2, none⟩ = some (.slice Bx nx mx) := fun w1 h1 => by
          have hh := hbn.below h1 hbn.lt
          have hl2 : bx < (wr.alloc (.cells #[.int .i8 k1, .string t1, .slice B1 n1 m1] 26)).heap.size := Nat.lt_of_lt_of_le hltx hib.size
          exact ⟨hh.cell 0, hh.cell 1, hh.cell 2, (h1.cell (p := ⟨bx, ox + j * 3, none⟩) hl2).trans y0, (h1.cell (p := ⟨bx, ox + j * 3 + 1, none⟩) hl2).trans y1, (h1.cell (p := ⟨bx, ox + j * 3 + 2, none⟩) hl2).trans y2⟩
        have HKP := Lib.hid hKP
        have HIB := Lib.hid hib
        have HDD := Lib.hid (depth_ok (S := fun _ => True) (Z[i]) (by have := HZD.out _ (List.getElem_mem hin); omega))
        have HTK := Lib.hid (depths_take Z i hin)
        have HNE : wr.heap.size ≠ bx := by omega
        have HNE2 := HNE.symm
        have HBB := Lib.hid hB
        obtain ⟨dz, hdz⟩ : ∃ dz, (Z[i]).depth = dz := ⟨_, rfl⟩
        obtain ⟨dt, hdt⟩ : ∃ dt, Sx.depths (Z.take i) = dt := ⟨_, rfl⟩
        rw [hdz] at HDD HTK
        rw [hdt] at HTK ⊢
        clear hy hzx hel hKP hib hlt1 hdz hdt hB hbn hix
        go_wp2
        refine wp_region_quiet (C := fun w' => Below (wr.alloc (.cells #[.int .i8 k1, .string t1, .slice B1 n1 m1] 26)).heap.size (wr.alloc (.cells #[.int .i8 k1, .string t1, .slice B1 n1 m1] 26)) w') (by kernel_rfl) (by kernel_rfl) ((Below.refl _ _).drew) ?_
        rw [List.toList_toArray]
        refine wpQuiet_want rfl ?_ (fun w' hw' => ?_) ?_
        rotate_left
        · obtain ⟨j2, j3, j4, j5, j6, j7⟩ := HKP.out w' hw'
          unfold Oper.quietAt
          go_simp
          exact rfl
        simp only [Act.put, List.setIfInBounds_toArray, List.set_cons_succ, List.set_cons_zero]
        refine wpQuiet_want rfl ?_ (fun w' hw' => ?_) ?_
        rotate_left
        · obtain ⟨j2, j3, j4, j5, j6, j7⟩ := HKP.out w' hw'
          unfold Oper.quietAt
          go_simp
          exact rfl
        simp only [Act.put, List.setIfInBounds_toArray, List.set_cons_succ, List.set_cons_zero]
        refine wpQuiet_want rfl ?_ (fun w' hw' => ?_) ?_
        rotate_left
        · obtain ⟨j2, j3, j4, j5, j6, j7⟩ := HKP.out w' hw'
          unfold Oper.quietAt
          go_simp
          exact rfl
        simp only [Act.put, List.setIfInBounds_toArray, List.set_cons_succ, List.set_cons_zero]
        refine wpQuiet_want rfl ?_ (fun w' hw' => ?_) ?_
        rotate_left
        · obtain ⟨j2, j3, j4, j5, j6, j7⟩ := HKP.out w' hw'
          unfold Oper.quietAt
          go_simp
          exact rfl
        simp only [Act.put, List.setIfInBounds_toArray, List.set_cons_succ, List.set_cons_zero]
        refine wpQuiet_want rfl ?_ (fun w' hw' => ?_) ?_
        rotate_left
        · obtain ⟨j2, j3, j4, j5, j6, j7⟩ := HKP.out w' hw'
          unfold Oper.quietAt
          go_simp
          exact rfl
        simp only [Act.put, List.setIfInBounds_toArray, List.set_cons_succ, List.set_cons_zero]
        refine wpQuiet_skip (by rw [Hd7.out]; rfl) ?_
        simp only [Act.put, List.setIfInBounds_toArray, List.set_cons_succ, List.set_cons_zero]
        refine wpQuiet_skip (by rw [Hd7.out]; rfl) ?_
        simp only [Act.put, List.setIfInBounds_toArray, List.set_cons_succ, List.set_cons_zero]
        refine wpQuiet_skip (by rw [Hd7.out]; rfl) ?_
        simp only [Act.put, List.setIfInBounds_toArray, List.set_cons_succ, List.set_cons_zero]
        refine wpQuiet_skip (by rw [Hd7.out]; rfl) ?_
        simp only [Act.put, List.setIfInBounds_toArray, List.set_cons_succ, List.set_cons_zero]
        refine wpQuiet_skip (by rw [Hd7.out]; rfl) ?_
        simp only [Act.put, List.setIfInBounds_toArray, List.set_cons_succ, List.set_cons_zero]
        refine wpQuiet_skip (by rw [Hd7.out]; rfl) ?_
        simp only [Act.put, List.setIfInBounds_toArray, List.set_cons_succ, List.set_cons_zero]
        refine wpQuiet_skip (by rw [Hd7.out]; rfl) ?_
        simp only [Act.put, List.setIfInBounds_toArray, List.set_cons_succ, List.set_cons_zero]
        refine wpQuiet_want rfl (.bool false) (fun w' hw' => ?_) ?_
        · unfold Oper.quietAt
          rw [Hd7.out]
          go_simp
        simp only [Act.put, List.setIfInBounds_toArray, List.set_cons_succ, List.set_cons_zero]
        refine wpQuiet_want rfl ?_ (fun w' hw' => ?_) ?_
        rotate_left
        · obtain ⟨j2, j3, j4, j5, j6, j7⟩ := HKP.out w' hw'
          unfold Oper.quietAt
          go_simp
          exact rfl
        simp only [Act.put, List.setIfInBounds_toArray, List.set_cons_succ, List.set_cons_zero]
        refine wpQuiet_want rfl ?_ (fun w' hw' => ?_) ?_
        rotate_left
        · obtain ⟨j2, j3, j4, j5, j6, j7⟩ := HKP.out w' hw'
          unfold Oper.quietAt
          go_simp
          exact rfl
        simp only [Act.put, List.setIfInBounds_toArray, List.set_cons_succ, List.set_cons_zero]
        refine wpQuiet_want rfl ?_ (fun w' hw' => ?_) ?_
        rotate_left
        · obtain ⟨j2, j3, j4, j5, j6, j7⟩ := HKP.out w' hw'
          unfold Oper.quietAt
          go_simp
          exact rfl
        simp only [Act.put, List.setIfInBounds_toArray, List.set_cons_succ, List.set_cons_zero]
        refine wpQuiet_want rfl ?_ (fun w' hw' => ?_) ?_
        rotate_left
        · obtain ⟨j2, j3, j4, j5, j6, j7⟩ := HKP.out w' hw'
          unfold Oper.quietAt
          go_simp
          exact rfl
        simp only [Act.put, List.setIfInBounds_toArray, List.set_cons_succ, List.set_cons_zero]
        refine wpQuiet_want rfl ?_ (fun w' hw' => ?_) ?_
        rotate_left
        · obtain ⟨j2, j3, j4, j5, j6, j7⟩ := HKP.out w' hw'
          unfold Oper.quietAt
          go_simp
          exact rfl
        simp only [Act.put, List.setIfInBounds_toArray, List.set_cons_succ, List.set_cons_zero]
        refine wpQuiet_want rfl ?_ (fun w' hw' => ?_) ?_
        rotate_left
        · obtain ⟨j2, j3, j4, j5, j6, j7⟩ := HKP.out w' hw'
          unfold Oper.quietAt
          go_simp
          exact rfl
        simp only [Act.put, List.setIfInBounds_toArray, List.set_cons_succ, List.set_cons_zero]
        refine wpQuiet_want (by rw [Hd6.out]; rfl) ?_ (fun w' hw' => ?_) ?_
        rotate_left
        · obtain ⟨j2, j3, j4, j5, j6, j7⟩ := HKP.out w' hw'
          unfold Oper.quietAt
          go_simp
          exact rfl
        simp only [Act.put, List.setIfInBounds_toArray, List.set_cons_succ, List.set_cons_zero]
        refine wpQuiet_want (by rw [Hd6.out]; rfl) ?_ (fun w' hw' => ?_) ?_
        rotate_left
        · obtain ⟨j2, j3, j4, j5, j6, j7⟩ := HKP.out w' hw'
          unfold Oper.quietAt
          go_simp
          exact rfl
        simp only [Act.put, List.setIfInBounds_toArray, List.set_cons_succ, List.set_cons_zero]
        refine wpQuiet_want (by rw [Hd6.out]; rfl) ?_ (fun w' hw' => ?_) ?_
        rotate_left
        · obtain ⟨j2, j3, j4, j5, j6, j7⟩ := HKP.out w' hw'
          unfold Oper.quietAt
          go_simp
          exact rfl
        simp only [Act.put, List.setIfInBounds_toArray, List.set_cons_succ, List.set_cons_zero]
        refine wpQuiet_want (by rw [Hd6.out]; rfl) ?_ (fun w' hw' => ?_) ?_
        rotate_left
        · obtain ⟨j2, j3, j4, j5, j6, j7⟩ := HKP.out w' hw'
          unfold Oper.quietAt
          go_simp
          exact rfl
        simp only [Act.put, List.setIfInBounds_toArray, List.set_cons_succ, List.set_cons_zero]
        refine wpQuiet_want (by rw [Hd6.out]; rfl) ?_ (fun w' hw' => ?_) ?_
        rotate_left
        · obtain ⟨j2, j3, j4, j5, j6, j7⟩ := HKP.out w' hw'
          unfold Oper.quietAt
          go_simp
          exact rfl
        simp only [Act.put, List.setIfInBounds_toArray, List.set_cons_succ, List.set_cons_zero]
        refine wpQuiet_want (by rw [Hd6.out]; rfl) ?_ (fun w' hw' => ?_) ?_
        rotate_left
        · obtain ⟨j2, j3, j4, j5, j6, j7⟩ := HKP.out w' hw'
          unfold Oper.quietAt
          go_simp
          exact rfl
        simp only [Act.put, List.setIfInBounds_toArray, List.set_cons_succ, List.set_cons_zero]
        refine wpQuiet_want (by rw [Hd6.out]; rfl) ?_ (fun w' hw' => ?_) ?_
        rotate_left
        · obtain ⟨j2, j3, j4, j5, j6, j7⟩ := HKP.out w' hw'
          unfold Oper.quietAt
          go_simp
          exact rfl
        simp only [Act.put, List.setIfInBounds_toArray, List.set_cons_succ, List.set_cons_zero]
        refine wpQuiet_want (by rw [Hd6.out]; rfl) ?_ (fun w' hw' => ?_) ?_
        rotate_left
        · obtain ⟨j2, j3, j4, j5, j6, j7⟩ := HKP.out w' hw'
          unfold Oper.quietAt
          go_simp
          exact rfl
        simp only [Act.put, List.setIfInBounds_toArray, List.set_cons_succ, List.set_cons_zero]
        refine wpQuiet_want (by rw [Hd6.out]; rfl) (.bool true) (fun w' hw' => ?_) ?_
        · obtain ⟨j2, j3, j4, j5, j6, j7⟩ := HKP.out w' hw'
          unfold Oper.quietAt
          go_simp
          refine (HSI.out _ _ w' (HLD.out.keep hw') (HLX.out.keep hw')).mono ?_
          rintro e w2 ⟨rfl, hb⟩
          have hz := hw'.trans (hb.mono hw'.size)
          exact ⟨rfl, by simpa using hz⟩
        simp only [Act.put, List.setIfInBounds_toArray, List.set_cons_succ, List.set_cons_zero]
        refine wpQuiet_want (by rw [Hd6.out]; rfl) ?_ (fun w' hw' => ?_) ?_
        rotate_left
        · obtain ⟨j2, j3, j4, j5, j6, j7⟩ := HKP.out w' hw'
          unfold Oper.quietAt
          go_simp
          exact rfl
        simp only [Act.put, List.setIfInBounds_toArray, List.set_cons_succ, List.set_cons_zero]
        refine wpQuiet_want rfl (.bool false) (fun w' hw' => ?_) ?_
        · unfold Oper.quietAt
          rw [Hd6.out]
          go_simp
        simp only [Act.put, List.setIfInBounds_toArray, List.set_cons_succ, List.set_cons_zero]
        refine wpQuiet_want rfl (.bool false) (fun w' hw' => ?_) ?_
        · unfold Oper.quietAt
          rw [Hd6.out]
          go_simp
        simp only [Act.put, List.setIfInBounds_toArray, List.set_cons_succ, List.set_cons_zero]
        refine wpQuiet_nil ?_
        intro w6 hb7
        obtain ⟨j2, j3, j4, j5, j6, j7⟩ := HKP.out w6 hb7
        go_wp2_with (go_at_call 19; refine (HDD.out _ _ (HLD.out.keep hb7)).mono ?_; rintro e w7 ⟨rfl, hb8⟩)
        go_roundw
        case rel =>
          refine ⟨below_then (below_then (HBB.out.trans (HIB.out.mono HBB.out.size)) (Nat.le_refl _) hb7) (Nat.le_refl _) hb8, i + 1, by omega, by go_num, ?_⟩
          rw [HTK.out]
          congr 1
          omega
        case measure => simp only [intOf]; omega
    · have d3 : decide ((i : Int) < Z.length) = false := decide_eq_false (by omega)
      have e3 : Z.take i = Z := List.take_of_length_le (by omega)
      rw [e3]
      have hdl : (Sx.mk 3 [] Z).depth = Sx.depths Z + 1 := by rw [Sx.depth, if_pos rfl]
      have HDF := Lib.hid (depth_ok (S := fun _ => True) (Sx.mk 3 [] Z) (by omega) _ wr (HL3.out.keep hB))
      rw [hdl] at HDF
      obtain ⟨dz, hdz⟩ : ∃ dz, Sx.depths Z = dz := ⟨_, rfl⟩
      rw [hdz] at HDF hds ⊢
      have d6 : (((dz + 1 : Nat) : Int) == (dz : Int) + 1) = true := by simp
      have HBB := Lib.hid hB
      clear hB hdl hdz e3
      go_wp2_with (first
        | (go_at_call 19; refine HDF.out.mono ?_; rintro e w7 ⟨rfl, hb7⟩)
        | (go_at_call 8; refine (HW.out _).mono ?_; rintro e w8 ⟨rfl, hb8⟩))
      go_ret
      exact ⟨rfl, below_then (below_then (HB0.out.trans (HBB.out.mono HB0.out.size)) (Nat.le_refl _) hb7) (Nat.le_refl _) hb8⟩

set_option maxHeartbeats 2000000 in
set_option maxRecDepth 100000 in
theorem joined_bad (s t : ByteArray) (w : World) (h1 : s.size ≤ 1000) (h2 : t.size ≤ 1000) (h : (allM (byts s)).2.2 ≠ 0 ∨ ((allM (byts s)).2.2 = 0 ∧ (allM (byts t)).2.2 ≠ 0)) :
    Calls Try.prog 7 #[.string s, .string t] w fun e w' => e = .returned (.bool true) ∧ Below w.heap.size w w' := by
  have d1 : decide ((s.size : Int) > 1000) = false := decide_eq_false (by omega)
  have d1' : decide ((1000 : Int) < s.size) = false := d1
  have d2 : decide ((t.size : Int) > 1000) = false := decide_eq_false (by omega)
  have d2' : decide ((1000 : Int) < t.size) = false := d2
  obtain ⟨q, hq⟩ : ∃ q, (s ++ ⟨#[10]⟩ : ByteArray) ++ t = q := ⟨_, rfl⟩
  have hqb : byts q = byts s ++ 10 :: byts t := by rw [← hq]; simp [byts]
  have hqs : q.size ≤ 1000000 := by rw [← byts_len, hqb, List.length_append, byts_len, List.length_cons, byts_len]; omega
  have HS := Lib.hid (All_list s (by omega))
  have HT := Lib.hid (All_list t (by omega))
  have HQ := Lib.hid (All_list q hqs)
  have hgl := allM_glue (byts s) (byts t)
  rw [← hqb] at hgl
  obtain ⟨⟨Z, mz, ez⟩, hZ⟩ : ∃ R, allM (byts q) = R := ⟨_, rfl⟩
  obtain ⟨⟨X, m, ec⟩, hX⟩ : ∃ R, allM (byts s) = R := ⟨_, rfl⟩
  obtain ⟨⟨Y, m', ec'⟩, hY⟩ : ∃ R, allM (byts t) = R := ⟨_, rfl⟩
  rw [hX] at HS hgl h
  rw [hY] at HT hgl h
  rw [hZ] at HQ hgl
  dsimp only at hgl h
  have HW := Lib.hid wakes_ok
  clear hX hY hZ hqb
  rcases h with h | ⟨h, h'⟩
  · have b1 : (ec != 0) = true := bne_iff_ne.2 h
    clear hgl h
    go_enter Try.func7, Try.ntmps7
    go_wp2_with (first
      | (go_at_call 12; (with_reducible refine (HS.out _).mono ?_); rintro e w1 ⟨⟨A, c, hlc, _, rfl⟩, hb1⟩)
      | (go_at_call 12; (with_reducible refine (HT.out _).mono ?_); rintro e w2 ⟨⟨B, d, hld, _, rfl⟩, hb2⟩)
      | (go_at_call 12; (with_reducible refine (HQ.out _).mono ?_); rintro e w3 ⟨⟨C, f, hlf, _, rfl⟩, hb3⟩)
      | (go_at_call 8; refine (HW.out _).mono ?_; rintro e w4 ⟨rfl, hb4⟩))
    go_ret
    exact ⟨rfl, below_then (below_then (below_then hb1 (Nat.le_refl _) hb2) (Nat.le_refl _) hb3) (Nat.le_refl _) hb4⟩
  · subst h
    have b1 : (ec' != 0) = true := bne_iff_ne.2 h'
    have hz := congrArg (fun R => R.2.2) (hgl rfl)
    dsimp only at hz
    subst hz
    clear hgl h'
    go_enter Try.func7, Try.ntmps7
    go_wp2_with (first
      | (go_at_call 12; (with_reducible refine (HS.out _).mono ?_); rintro e w1 ⟨⟨A, c, hlc, _, rfl⟩, hb1⟩)
      | (go_at_call 12; (with_reducible refine (HT.out _).mono ?_); rintro e w2 ⟨⟨B, d, hld, _, rfl⟩, hb2⟩)
      | (go_at_call 12; (with_reducible refine (HQ.out _).mono ?_); rintro e w3 ⟨⟨C, f, hlf, _, rfl⟩, hb3⟩)
      | (go_at_call 8; refine (HW.out _).mono ?_; rintro e w4 ⟨rfl, hb4⟩))
    go_ret
    exact ⟨rfl, below_then (below_then (below_then hb1 (Nat.le_refl _) hb2) (Nat.le_refl _) hb3) (Nat.le_refl _) hb4⟩

theorem sexprJoined_walk (s t : ByteArray) (w : World) (_ : s.size ≤ maxLen) (_ : t.size ≤ maxLen) :
    Calls Try.prog 7 #[.string s, .string t] w fun e w' => e = .returned (.bool true) ∧ Below w.heap.size w w' := by
  by_cases h1 : s.size ≤ 1000
  · by_cases h2 : t.size ≤ 1000
    · by_cases hs : (allM (byts s)).2.2 = 0
      · by_cases ht : (allM (byts t)).2.2 = 0
        · exact joined_ok s t w h1 h2 hs ht
        · exact joined_bad s t w h1 h2 (.inr ⟨hs, ht⟩)
      · exact joined_bad s t w h1 h2 (.inl hs)
    · have d1 : decide ((s.size : Int) > 1000) = false := decide_eq_false (by omega)
      have d1' : decide ((1000 : Int) < s.size) = false := d1
      have d2 : decide ((t.size : Int) > 1000) = true := decide_eq_true (by omega)
      have d2' : decide ((1000 : Int) < t.size) = true := d2
      have HW := Lib.hid (wakes_ok w)
      go_enter Try.func7, Try.ntmps7
      go_wp2_with (go_at_call 8; refine HW.out.mono ?_; rintro e w6 ⟨rfl, hb6⟩)
      go_ret
      exact ⟨rfl, hb6⟩
  · have d1 : decide ((s.size : Int) > 1000) = true := decide_eq_true (by omega)
    have d1' : decide ((1000 : Int) < s.size) = true := d1
    have HW := Lib.hid (wakes_ok w)
    go_enter Try.func7, Try.ntmps7
    go_wp2_with (go_at_call 8; refine HW.out.mono ?_; rintro e w6 ⟨rfl, hb6⟩)
    go_ret
    exact ⟨rfl, hb6⟩
end Go.Proofs.Ytephhendkmhggaa

/- num.Parse: the number. -/
import Derived.Test.YtiklliiamljogaaGreatDoorRefA
import Derived.Test.YtiklliiamljogaaGreatDoorStA
namespace Go.Proofs.YtiklliiamljogaaGreatDoor
open Go.RowKit

theorem quo10 {d : Int} (h : d ≤ 9) : Int.tdiv (4611686018427387904 - d) 10 = (4611686018427387904 - d) / 10 := Int.tdiv_eq_ediv_of_nonneg (by omega)
/-- What is told of digits: the number, or the error. -/
def loopR (t : List UInt8) : Int × Int := if (t.all fun c => digitN c.toNat) = true then (match pgo 0 t with | some n => (n, 0) | none => (0, 10)) else (0, 20)
theorem loop_parse {t : List UInt8} (h1 : t ≠ []) (h2 : (decide (1 < t.length) && headB t == 48) = false) : loopR t = parseN t := by
  unfold loopR parseN
  have h3 : numL t = t.all fun c => digitN c.toNat := by
    unfold numL
    rw [h2, List.isEmpty_eq_false_iff.2 h1]
    rfl
  rw [h3]
  rfl
theorem parse_none {t : List UInt8} (h : numL t = false) : parseN t = (0, 20) := by unfold parseN; rw [h]; rfl
/-- One digit put. -/
def PutD (n d n2 : Int) (o o2 : Bool) : Prop := if (4611686018427387904 - d) / 10 < n then n2 = n ∧ o2 = true else n2 = n * 10 + d ∧ o2 = o
def PutOut (w' : World) (bn bo : Nat) (n d : Int) (o : Bool) : Prop := ∃ n' o', Blk w' bn 3 #[.int .i64 n'] ∧ Blk w' bo 4 #[.bool o'] ∧ 0 ≤ n' ∧ n' ≤ 4611686018427387904 ∧ PutD n d n' o o'
theorem PutD.yes {n d : Int} (o : Bool) (h : (4611686018427387904 - d) / 10 < n) : PutD n d n o true := by unfold PutD; rw [if_pos h]; exact ⟨rfl, rfl⟩
theorem PutD.no {n d : Int} (o : Bool) (h : ¬ (4611686018427387904 - d) / 10 < n) : PutD n d (n * 10 + d) o o := by unfold PutD; rw [if_neg h]; exact ⟨rfl, rfl⟩
theorem pin_step {n n2 d : Int} {o o2 : Bool} {x : UInt8} {r : List UInt8} {R : Option Int} (hd : (x.toNat : Int) - 48 = d) (h : (if o = true then none else pgo n (x :: r)) = R) (hp : PutD n d n2 o o2) : (if o2 = true then none else pgo n2 r) = R := by
  unfold PutD at hp
  rw [pgo, hd] at h
  split at hp
  · obtain ⟨rfl, rfl⟩ := hp
    rw [if_pos rfl]
    rename_i hq
    rw [if_pos hq, ite_self] at h
    exact h
  · obtain ⟨rfl, rfl⟩ := hp
    rename_i hq
    rw [if_neg hq] at h
    exact h

set_option maxHeartbeats 1000000 in
set_option maxRecDepth 100000 in
theorem put_ok (w : World) (bn bo : Nat) (n d : Int) (o : Bool) (hn : Blk w bn 3 #[.int .i64 n]) (ho : Blk w bo 4 #[.bool o]) (h0 : 0 ≤ n) (h1 : n ≤ 4611686018427387904) (g0 : 0 ≤ d) (g1 : d ≤ 9) (hne : bn ≠ bo) :
    Calls Tryz.prog 89 #[.int .i64 d, .pointer (some ⟨bn, 0, none⟩), .pointer (some ⟨bo, 0, none⟩)] w fun e w' => e = .returned (.tuple #[]) ∧ PutOut w' bn bo n d o ∧ Kept (fun i => i = bn ∨ i = bo) w w' := by
  have x0 := hn.cell 0
  have f0 := hn.frozen 0
  have y0 := ho.cell 0
  have f1 := ho.frozen 0
  simp only [List.getElem?_toArray, List.getElem?_cons_zero] at x0 y0
  have HN := Lib.hid hn
  have HO := Lib.hid ho
  have hq := quo10 g1
  clear hn ho
  by_cases hb : (4611686018427387904 - d) / 10 < n
  · have d1 : decide ((4611686018427387904 - d) / 10 < n) = true := decide_eq_true hb
    have d1' : decide (n > (4611686018427387904 - d) / 10) = true := d1
    go_enter Tryz.func89, Tryz.ntmps89
    go_wp2
    refine bodyPost_ret (v := .tuple #[]) (by simp [results, Tryz.results89, go_sem]) rfl ⟨rfl, ⟨n, true, HN.out.far (p := ⟨bo, 0, none⟩) hne _, HO.out.set_ 0 (.bool true), h0, h1, PutD.yes o hb⟩, (Kept.refl _ w).setCell (p := ⟨bo, 0, none⟩) (.inl (.inr rfl)) _⟩
  · have d1 : decide ((4611686018427387904 - d) / 10 < n) = false := decide_eq_false hb
    have d1' : decide (n > (4611686018427387904 - d) / 10) = false := d1
    go_enter Tryz.func89, Tryz.ntmps89
    go_wp2
    go_end0
    exact ⟨rfl, ⟨n * 10 + d, o, HN.out.set_ 0 (.int .i64 (n * 10 + d)), HO.out.far (p := ⟨bn, 0, none⟩) hne.symm _, by omega, by omega, PutD.no o (by omega)⟩, (Kept.refl _ w).setCell (p := ⟨bn, 0, none⟩) (.inl (.inl rfl)) _⟩
theorem and15 : ∀ x : Fin 256, digitN x.val = true → bits .and .u8 (x.val : Int) 15 = ((x.val - 48 : Nat) : Int) := by decide +kernel

set_option maxHeartbeats 1000000 in
set_option maxRecDepth 100000 in
theorem parse_loop (s : ByteArray) (w : World) (hs : s.size < 9223372036854775807) (hne : byts s ≠ []) (hz : (decide (1 < s.size) && headB (byts s) == 48) = false) :
    Calls Tryz.prog 74 #[.string s] w fun e w' => (∃ n c, e = .returned (.tuple #[.int .i64 n, .int .i64 c]) ∧ (n, c) = loopR (byts s)) ∧ Below w.heap.size w w' := by
  obtain ⟨cap, W, hc, hB, hb⟩ := conv_at ((w.alloc (.cells #[.int .i64 0] 3)).alloc (.cells #[.bool false] 4)) s
  have h0 : 0 < s.size := by
    rw [← byts_len]
    exact List.length_pos_iff.2 hne
  have h0z : (0 : Int) < s.size := by omega
  have b1 : (s.toList == []) = false := beq_eq_false_iff_ne.2 (by rw [Lib.toList_data]; exact hne)
  have b2 : s.toList.isEmpty = false := by
    rw [Lib.toList_data]
    exact List.isEmpty_eq_false_iff.2 hne
  have hbn0 : Blk ((w.alloc (.cells #[.int .i64 0] 3)).alloc (.cells #[.bool false] 4)) w.heap.size 3 #[.int .i64 0] := (Blk.new w _ _).alloc _
  have hbo0 : Blk ((w.alloc (.cells #[.int .i64 0] 3)).alloc (.cells #[.bool false] 4)) (w.heap.size + 1) 4 #[.bool false] := Blk.new_at (by simp) _ _
  have hbn := hbn0.below hb hbn0.lt
  have hbo := hbo0.below hb hbo0.lt
  have hBw : Below w.heap.size w W := (((Below.refl _ w).alloc (Nat.le_refl _) _).alloc (by simp) _).trans (hb.mono (by simp; omega))
  have hszW : w.heap.size + 2 ≤ W.heap.size := by simpa using hb.size
  have hd : headB (byts s) = (s[0]'h0).toNat := by
    have h3 := byts_drop h0
    rw [List.drop_zero] at h3
    rw [h3]
    rfl
  have HH := Lib.hid hd
  have HW := Lib.hid hBw
  have HBY := Lib.hid hB
  have HN := Lib.hid hbn
  have HO := Lib.hid hbo
  have HS := Lib.hid hszW
  obtain ⟨x0, hx0⟩ : ∃ x0 : UInt8, s[0]'h0 = x0 := ⟨_, rfl⟩
  rw [hd, hx0] at hz
  clear hbn0 hbo0 hbn hbo hBw hB hb hd hszW
  cases hsz : decide (1 < s.size) with
  | true =>
    have b3 : decide ((1 : Int) < s.size) = true := decide_eq_true (by have := of_decide_eq_true hsz; omega)
    rw [hsz, Bool.true_and] at hz
    have b4 : ((x0.toNat : Int) == 48) = false := beq_eq_false_iff_ne.2 (by have := beq_eq_false_iff_ne.1 hz; omega)
    clear hz hsz
    go_enter Tryz.func74, Tryz.ntmps74
    go_wp2
    go_loopg [25] s.size (fun g v wx => ∃ (i : Nat) (n : Int) (o : Bool), i + g = s.size ∧ v = .int .i64 i ∧ Blk wx w.heap.size 3 #[.int .i64 n] ∧ Blk wx (w.heap.size + 1) 4 #[.bool o] ∧ 0 ≤ n ∧ n ≤ 4611686018427387904 ∧ Kept (fun i => i = w.heap.size ∨ i = w.heap.size + 1) W wx ∧ (((byts s).drop i).all (fun c => digitN c.toNat) = (byts s).all fun c => digitN c.toNat) ∧ (if o = true then none else pgo n ((byts s).drop i)) = pgo 0 (byts s))
    case atStart => exact ⟨0, 0, false, by omega, rfl, HN.out, HO.out, by decide, by decide, Kept.refl _ _, rfl, rfl⟩
    case round =>
      obtain ⟨i, n, o, hig, rfl, hN, hO, hn0, hn1, hK, hinv, hjnv⟩ := hrel
      have HJ := Lib.hid hjnv
      have HI := Lib.hid hinv
      have HK := Lib.hid hK
      have HN2 := Lib.hid hN
      have HO2 := Lib.hid hO
      have p0 := hN.cell 0
      have p1 := hO.cell 0
      simp only [List.getElem?_toArray, List.getElem?_cons_zero] at p0 p1
      have HC := Lib.hid hc
      clear hinv hjnv hK hN hO hc
      cases gk with
      | zero =>
        have d1 : decide ((i : Int) < s.size) = false := by simp; omega
        have HE := Lib.hid (show (byts s).all (fun c => digitN c.toNat) = true by rw [← HI.out, byts_end (by omega)]; rfl)
        have hbw := Lib.hid (HW.out.trans (HK.out.below (B := w.heap.size) (Nat.le_trans (by omega) HS.out) (fun i hi => by omega)))
        cases o with
        | true =>
          go_wp2
          refine bodyPost_ret (v := .tuple #[.int .i64 0, .int .i64 10]) (by simp [results, Tryz.results74, go_sem]) rfl ⟨⟨_, _, rfl, ?_⟩, hbw.out⟩
          unfold loopR
          rw [if_pos HE.out, ← HJ.out]; rfl
        | false =>
          go_wp2
          refine bodyPost_ret (v := .tuple #[.int .i64 n, .int .i64 0]) (by simp [results, Tryz.results74, go_sem]) rfl ⟨⟨_, _, rfl, ?_⟩, hbw.out⟩
          unfold loopR
          rw [if_pos HE.out, ← HJ.out, byts_end (by omega)]; rfl
      | succ g =>
        have hiz : (i : Int) < (s.size : Int) := by omega
        have hin : i < s.size := by omega
        have d1 : decide ((i : Int) < s.size) = true := decide_eq_true hiz
        obtain ⟨x, hx⟩ : ∃ x : UInt8, s[i]'(by omega) = x := ⟨_, rfl⟩
        have hx8 := x.toNat_lt
        have HX := Lib.hid hx
        have hcell : wr.cell? ⟨w.heap.size + 1 + 1, i, none⟩ = some (.int .u8 x.toNat) := by
          have h1 := HBY.out i hin
          rw [hx] at h1
          have h2 : wr.heap[w.heap.size + 1 + 1]? = W.heap[w.heap.size + 1 + 1]? := HK.out.block _ (by
            have := World.block_lt_of_cell? _ _ h1
            simpa using this) (by omega)
          have h3 : W.cell? ⟨w.heap.size + 1 + 1, i, none⟩ = some (.int .u8 x.toNat) := by simpa using h1
          unfold World.cell? at h3 ⊢
          rw [h2]
          exact h3
        clear hx
        cases hp : digitN x.toNat with
        | true =>
          have hp2 : 48 ≤ x.toNat ∧ x.toNat < 58 := of_decide_eq_true hp
          have e1 : decide ((x.toNat : Int) < 48) = false := decide_eq_false (by omega)
          have e2 : decide ((x.toNat : Int) > 57) = false := decide_eq_false (by omega)
          have e3 : decide ((57 : Int) < x.toNat) = false := e2
          have hd : bits .and .u8 (x.toNat : Int) 15 = ((x.toNat - 48 : Nat) : Int) := and15 ⟨x.toNat, hx8⟩ hp
          obtain ⟨d, hdd⟩ : ∃ d : Nat, x.toNat - 48 = d := ⟨_, rfl⟩
          rw [hdd] at hd
          have hd9 : d < 10 := by omega
          have HDD := Lib.hid (show (x.toNat : Int) - 48 = (d : Int) by omega)
          clear hdd
          have Hp := Lib.hid hp
          clear hp hp2
          go_wp2_with (go_at_call 89; refine (put_ok _ w.heap.size (w.heap.size + 1) n d o HN2.out HO2.out hn0 hn1 (by omega) (by omega) (by omega)).mono ?_; rintro e w1 ⟨rfl, ⟨n2, o2, hN3, hO3, hn3, hn4, hpd⟩, hk3⟩)
          go_roundg g
          case measure => omega
          case rel => exact ⟨i + 1, n2, o2, by omega, by go_num, hN3, hO3, hn3, hn4, HK.out.trans hk3, by rw [← HI.out, byts_drop hin, HX.out, List.all_cons, Hp.out, Bool.true_and], pin_step HDD.out (by rw [← HX.out, ← byts_drop hin]; exact HJ.out) hpd⟩
        | false =>
          have hbw := Lib.hid (HW.out.trans (HK.out.below (B := w.heap.size) (Nat.le_trans (by omega) HS.out) (fun i hi => by omega)))
          have HE := Lib.hid (show (byts s).all (fun c => digitN c.toNat) = false by rw [← HI.out, byts_drop hin, HX.out, List.all_cons, hp, Bool.false_and])
          have hp2 : ¬ (48 ≤ x.toNat ∧ x.toNat < 58) := of_decide_eq_false hp
          clear hp
          by_cases h48 : x.toNat < 48
          · have e1 : decide ((x.toNat : Int) < 48) = true := decide_eq_true (by omega)
            go_wp2
            refine bodyPost_ret (v := .tuple #[.int .i64 0, .int .i64 20]) (by simp [results, Tryz.results74, go_sem]) rfl ⟨⟨_, _, rfl, ?_⟩, hbw.out⟩
            unfold loopR
            rw [if_neg (by rw [HE.out]; decide)]
          · have e1 : decide ((x.toNat : Int) < 48) = false := decide_eq_false (by omega)
            have e2 : decide ((x.toNat : Int) > 57) = true := decide_eq_true (by omega)
            have e3 : decide ((57 : Int) < x.toNat) = true := e2
            go_wp2
            refine bodyPost_ret (v := .tuple #[.int .i64 0, .int .i64 20]) (by simp [results, Tryz.results74, go_sem]) rfl ⟨⟨_, _, rfl, ?_⟩, hbw.out⟩
            unfold loopR
            rw [if_neg (by rw [HE.out]; decide)]
  | false =>
    have b3 : decide ((1 : Int) < s.size) = false := decide_eq_false (by have := of_decide_eq_false hsz; omega)
    clear hz hsz
    go_enter Tryz.func74, Tryz.ntmps74
    go_wp2
    go_loopg [25] s.size (fun g v wx => ∃ (i : Nat) (n : Int) (o : Bool), i + g = s.size ∧ v = .int .i64 i ∧ Blk wx w.heap.size 3 #[.int .i64 n] ∧ Blk wx (w.heap.size + 1) 4 #[.bool o] ∧ 0 ≤ n ∧ n ≤ 4611686018427387904 ∧ Kept (fun i => i = w.heap.size ∨ i = w.heap.size + 1) W wx ∧ (((byts s).drop i).all (fun c => digitN c.toNat) = (byts s).all fun c => digitN c.toNat) ∧ (if o = true then none else pgo n ((byts s).drop i)) = pgo 0 (byts s))
    case atStart => exact ⟨0, 0, false, by omega, rfl, HN.out, HO.out, by decide, by decide, Kept.refl _ _, rfl, rfl⟩
    case round =>
      obtain ⟨i, n, o, hig, rfl, hN, hO, hn0, hn1, hK, hinv, hjnv⟩ := hrel
      have HJ := Lib.hid hjnv
      have HI := Lib.hid hinv
      have HK := Lib.hid hK
      have HN2 := Lib.hid hN
      have HO2 := Lib.hid hO
      have p0 := hN.cell 0
      have p1 := hO.cell 0
      simp only [List.getElem?_toArray, List.getElem?_cons_zero] at p0 p1
      have HC := Lib.hid hc
      clear hinv hjnv hK hN hO hc
      cases gk with
      | zero =>
        have d1 : decide ((i : Int) < s.size) = false := by simp; omega
        have HE := Lib.hid (show (byts s).all (fun c => digitN c.toNat) = true by rw [← HI.out, byts_end (by omega)]; rfl)
        have hbw := Lib.hid (HW.out.trans (HK.out.below (B := w.heap.size) (Nat.le_trans (by omega) HS.out) (fun i hi => by omega)))
        cases o with
        | true =>
          go_wp2
          refine bodyPost_ret (v := .tuple #[.int .i64 0, .int .i64 10]) (by simp [results, Tryz.results74, go_sem]) rfl ⟨⟨_, _, rfl, ?_⟩, hbw.out⟩
          unfold loopR
          rw [if_pos HE.out, ← HJ.out]; rfl
        | false =>
          go_wp2
          refine bodyPost_ret (v := .tuple #[.int .i64 n, .int .i64 0]) (by simp [results, Tryz.results74, go_sem]) rfl ⟨⟨_, _, rfl, ?_⟩, hbw.out⟩
          unfold loopR
          rw [if_pos HE.out, ← HJ.out, byts_end (by omega)]; rfl
      | succ g =>
        have hiz : (i : Int) < (s.size : Int) := by omega
        have hin : i < s.size := by omega
        have d1 : decide ((i : Int) < s.size) = true := decide_eq_true hiz
        obtain ⟨x, hx⟩ : ∃ x : UInt8, s[i]'(by omega) = x := ⟨_, rfl⟩
        have hx8 := x.toNat_lt
        have HX := Lib.hid hx
        have hcell : wr.cell? ⟨w.heap.size + 1 + 1, i, none⟩ = some (.int .u8 x.toNat) := by
          have h1 := HBY.out i hin
          rw [hx] at h1
          have h2 : wr.heap[w.heap.size + 1 + 1]? = W.heap[w.heap.size + 1 + 1]? := HK.out.block _ (by
            have := World.block_lt_of_cell? _ _ h1
            simpa using this) (by omega)
          have h3 : W.cell? ⟨w.heap.size + 1 + 1, i, none⟩ = some (.int .u8 x.toNat) := by simpa using h1
          unfold World.cell? at h3 ⊢
          rw [h2]
          exact h3
        clear hx
        cases hp : digitN x.toNat with
        | true =>
          have hp2 : 48 ≤ x.toNat ∧ x.toNat < 58 := of_decide_eq_true hp
          have e1 : decide ((x.toNat : Int) < 48) = false := decide_eq_false (by omega)
          have e2 : decide ((x.toNat : Int) > 57) = false := decide_eq_false (by omega)
          have e3 : decide ((57 : Int) < x.toNat) = false := e2
          have hd : bits .and .u8 (x.toNat : Int) 15 = ((x.toNat - 48 : Nat) : Int) := and15 ⟨x.toNat, hx8⟩ hp
          obtain ⟨d, hdd⟩ : ∃ d : Nat, x.toNat - 48 = d := ⟨_, rfl⟩
          rw [hdd] at hd
          have hd9 : d < 10 := by omega
          have HDD := Lib.hid (show (x.toNat : Int) - 48 = (d : Int) by omega)
          clear hdd
          have Hp := Lib.hid hp
          clear hp hp2
          go_wp2_with (go_at_call 89; refine (put_ok _ w.heap.size (w.heap.size + 1) n d o HN2.out HO2.out hn0 hn1 (by omega) (by omega) (by omega)).mono ?_; rintro e w1 ⟨rfl, ⟨n2, o2, hN3, hO3, hn3, hn4, hpd⟩, hk3⟩)
          go_roundg g
          case measure => omega
          case rel => exact ⟨i + 1, n2, o2, by omega, by go_num, hN3, hO3, hn3, hn4, HK.out.trans hk3, by rw [← HI.out, byts_drop hin, HX.out, List.all_cons, Hp.out, Bool.true_and], pin_step HDD.out (by rw [← HX.out, ← byts_drop hin]; exact HJ.out) hpd⟩
        | false =>
          have hbw := Lib.hid (HW.out.trans (HK.out.below (B := w.heap.size) (Nat.le_trans (by omega) HS.out) (fun i hi => by omega)))
          have HE := Lib.hid (show (byts s).all (fun c => digitN c.toNat) = false by rw [← HI.out, byts_drop hin, HX.out, List.all_cons, hp, Bool.false_and])
          have hp2 : ¬ (48 ≤ x.toNat ∧ x.toNat < 58) := of_decide_eq_false hp
          clear hp
          by_cases h48 : x.toNat < 48
          · have e1 : decide ((x.toNat : Int) < 48) = true := decide_eq_true (by omega)
            go_wp2
            refine bodyPost_ret (v := .tuple #[.int .i64 0, .int .i64 20]) (by simp [results, Tryz.results74, go_sem]) rfl ⟨⟨_, _, rfl, ?_⟩, hbw.out⟩
            unfold loopR
            rw [if_neg (by rw [HE.out]; decide)]
          · have e1 : decide ((x.toNat : Int) < 48) = false := decide_eq_false (by omega)
            have e2 : decide ((x.toNat : Int) > 57) = true := decide_eq_true (by omega)
            have e3 : decide ((57 : Int) < x.toNat) = true := e2
            go_wp2
            refine bodyPost_ret (v := .tuple #[.int .i64 0, .int .i64 20]) (by simp [results, Tryz.results74, go_sem]) rfl ⟨⟨_, _, rfl, ?_⟩, hbw.out⟩
            unfold loopR
            rw [if_neg (by rw [HE.out]; decide)]

set_option maxHeartbeats 1000000 in
set_option maxRecDepth 100000 in
theorem parse_ok (s : ByteArray) (w : World) (hs : s.size < 9223372036854775807) :
    Calls Tryz.prog 74 #[.string s] w fun e w' => (∃ n c, e = .returned (.tuple #[.int .i64 n, .int .i64 c]) ∧ (n, c) = parseN (byts s)) ∧ Below w.heap.size w w' := by
  by_cases hne : byts s = []
  · have b1 : (s.toList == []) = true := by rw [Lib.toList_data]; exact beq_iff_eq.2 hne
    have b2 : s.toList.isEmpty = true := by rw [Lib.toList_data]; exact List.isEmpty_iff.2 hne
    have HE := Lib.hid (show numL (byts s) = false by rw [hne]; rfl)
    go_enter Tryz.func74, Tryz.ntmps74
    go_wp2
    refine bodyPost_ret (v := .tuple #[.int .i64 0, .int .i64 20]) (by simp [results, Tryz.results74, go_sem]) rfl ⟨⟨_, _, rfl, ?_⟩, Below.refl _ _⟩
    rw [parse_none HE.out]
  · have b2 : s.toList.isEmpty = false := by rw [Lib.toList_data]; exact List.isEmpty_eq_false_iff.2 hne
    have b2' : (byts s).isEmpty = false := List.isEmpty_eq_false_iff.2 hne
    cases hz : decide (1 < s.size) && headB (byts s) == 48 with
    | false =>
      refine (parse_loop s w hs hne hz).mono ?_
      rintro e w' ⟨⟨n, c, h1, h2⟩, h3⟩
      refine ⟨⟨n, c, h1, ?_⟩, h3⟩
      rw [h2]
      exact loop_parse hne (by rw [byts_len]; exact hz)
    | true =>
      have HE := Lib.hid (show numL (byts s) = false by unfold numL; rw [byts_len, hz]; simp)
      rw [Bool.and_eq_true] at hz
      have h1 := of_decide_eq_true hz.1
      have h0 : 0 < s.size := by omega
      have h0z : (0 : Int) < s.size := by omega
      have d1 : decide ((1 : Int) < s.size) = true := decide_eq_true (by omega)
      have b1 : (s.toList == []) = false := beq_eq_false_iff_ne.2 (by rw [Lib.toList_data]; exact hne)
      have hd : headB (byts s) = (s[0]'h0).toNat := by
        have h3 := byts_drop h0
        rw [List.drop_zero] at h3
        rw [h3]
        rfl
      have h48 := beq_iff_eq.1 hz.2
      rw [hd] at h48
      have b4 : (((s[0]'h0).toNat : Int) == 48) = true := beq_iff_eq.2 (by omega)
      clear hz hd h48 hne b2'
      go_enter Tryz.func74, Tryz.ntmps74
      go_wp2
      refine bodyPost_ret (v := .tuple #[.int .i64 0, .int .i64 20]) (by simp [results, Tryz.results74, go_sem]) rfl ⟨⟨_, _, rfl, ?_⟩, Below.refl _ _⟩
      rw [parse_none HE.out]
end Go.Proofs.YtiklliiamljogaaGreatDoor

/- May's parts at an expression that lies anywhere. -/
namespace Go.Proofs.YtiklliiamljogaaGreatDoor
open Go.RowKit

/-- Three cells somewhere. -/
structure PC (w : World) (b off : Nat) (y : C3) : Prop where
  lt : b < w.heap.size
  c0 : w.cell? ⟨b, off, none⟩ = some (.int .i8 y.k)
  c1 : w.cell? ⟨b, off + 1, none⟩ = some (.string y.t)
  c2 : w.cell? ⟨b, off + 2, none⟩ = some (.slice y.A y.n y.c)
theorem PC.keep {w w' : World} {b off : Nat} {y : C3} (h : PC w b off y) (hb : Below w.heap.size w w') : PC w' b off y :=
  ⟨Nat.lt_of_lt_of_le h.lt hb.size, (hb.cell (p := ⟨b, off, none⟩) h.lt).trans h.c0, (hb.cell (p := ⟨b, off + 1, none⟩) h.lt).trans h.c1, (hb.cell (p := ⟨b, off + 2, none⟩) h.lt).trans h.c2⟩

/-- May a keyword's text be? -/
def kwL (t : List UInt8) : Bool := (t.all fun c => signN c.toNat) && (!t.isEmpty && decide (t.length ≤ 100))
end Go.Proofs.YtiklliiamljogaaGreatDoor

/- stands, May, Head. -/
namespace Go.Proofs.YtiklliiamljogaaGreatDoor
open Go.RowKit

mutual
/-- May an expression be, but for its depth? -/
def Sx.stands : Sx → Bool
  | .mk k t l => if k = 0 then l.isEmpty && mayL t else if k = 1 then l.isEmpty && (numL t && decide (t.length ≤ 100)) else if k = 2 then l.isEmpty && kwL t else if k = 3 then t.isEmpty && Sx.standss l else false
def Sx.standss : List Sx → Bool
  | [] => true
  | x :: r => x.stands && Sx.standss r
end
mutual
/-- No text in it is too long to walk upon. -/
def Sx.fits : Sx → Prop
  | .mk _ t l => t.length ≤ 1000000 ∧ Sx.fitss l
def Sx.fitss : List Sx → Prop
  | [] => True
  | x :: r => x.fits ∧ Sx.fitss r
end
theorem fitss_mem : ∀ {l : List Sx} {y : Sx}, Sx.fitss l → y ∈ l → y.fits
  | x :: r, y, h, hy => by
    rw [Sx.fitss] at h
    rcases List.mem_cons.1 hy with rfl | hy
    · exact h.1
    · exact fitss_mem h.2 hy
theorem standss_drop (l : List Sx) (i : Nat) (h : i < l.length) : Sx.standss (l.drop i) = ((l[i]).stands && Sx.standss (l.drop (i + 1))) := by
  rw [List.drop_eq_getElem_cons h, Sx.standss]

/-- May an expression be? -/
def Sx.may (x : Sx) : Bool := decide (x.depth ≤ 60) && x.stands
/-- An expression's head. -/
def Sx.head : Sx → List UInt8
  | .mk k _ l => if k = 3 then match l with
    | .mk 0 t _ :: _ => t
    | _ => []
    else []
end Go.Proofs.YtiklliiamljogaaGreatDoor

/- The writer: symbols, numbers, keywords. -/
namespace Go.Proofs.YtiklliiamljogaaGreatDoor
open Go.RowKit Go.Lib

mutual
/-- An expression as it is written. -/
def Sx.print : Sx → List UInt8
  | .mk k t l => if k = 0 then quoteL t else if k = 2 then 58 :: t else if k = 3 then 40 :: (Sx.prints l ++ [41]) else t
def Sx.prints : List Sx → List UInt8
  | [] => []
  | x :: r => x.print ++ Sx.tails r
def Sx.tails : List Sx → List UInt8
  | [] => []
  | x :: r => 32 :: (x.print ++ Sx.tails r)
end
theorem tails_snoc : ∀ (l : List Sx) (y : Sx), Sx.tails (l ++ [y]) = Sx.tails l ++ 32 :: y.print
  | [], y => by simp [Sx.tails]
  | x :: r, y => by
    show 32 :: (x.print ++ Sx.tails (r ++ [y])) = 32 :: (x.print ++ Sx.tails r) ++ 32 :: y.print
    rw [tails_snoc r y]
    simp
theorem prints_snoc (l : List Sx) (y : Sx) (h : l ≠ []) : Sx.prints (l ++ [y]) = Sx.prints l ++ 32 :: y.print := by
  cases l with
  | nil => exact absurd rfl h
  | cons x r =>
    show x.print ++ Sx.tails (r ++ [y]) = (x.print ++ Sx.tails r) ++ 32 :: y.print
    rw [tails_snoc, List.append_assoc]
theorem tails_take : ∀ (l : List Sx) (i : Nat), (Sx.tails (l.take i)).length ≤ (Sx.tails l).length
  | [], i => by simp [Sx.tails]
  | x :: r, 0 => by simp [Sx.tails]
  | x :: r, i + 1 => by
    have := tails_take r i
    rw [List.take_succ_cons, Sx.tails, Sx.tails]
    simp only [List.length_cons, List.length_append]
    omega
theorem prints_take (l : List Sx) (i : Nat) : (Sx.prints (l.take i)).length ≤ (Sx.prints l).length := by
  cases l with
  | nil => simp [Sx.prints]
  | cons x r =>
    cases i with
    | zero => simp [Sx.prints]
    | succ i =>
      have := tails_take r i
      rw [List.take_succ_cons, Sx.prints, Sx.prints]
      simp only [List.length_append]
      omega

theorem standss_mem : ∀ {l : List Sx} {y : Sx}, Sx.standss l = true → y ∈ l → y.stands = true
  | x :: r, y, h, hy => by
    rw [Sx.standss, Bool.and_eq_true] at h
    rcases List.mem_cons.1 hy with rfl | hy
    · exact h.1
    · exact standss_mem h.2 hy

theorem print_ne {x : Sx} (h : x.stands = true) : x.print ≠ [] := by
  obtain ⟨k, t, l⟩ := x
  rw [Sx.print]
  rw [Sx.stands] at h
  by_cases h0 : k = 0
  · rw [if_pos h0]
    unfold quoteL
    split
    · rintro rfl
      rename_i hq
      exact absurd hq (by decide)
    · simp
  rw [if_neg h0] at h ⊢
  by_cases h2 : k = 2
  · rw [if_pos h2]; simp
  rw [if_neg h2]
  by_cases h3 : k = 3
  · rw [if_pos h3]; simp
  rw [if_neg h3]
  rw [if_neg h2, if_neg h3] at h
  by_cases h1 : k = 1
  · rw [if_pos h1, Bool.and_eq_true, Bool.and_eq_true] at h
    rintro rfl
    exact absurd h.2.1 (by decide)
  · rw [if_neg h1] at h
    cases h

/-- Text: the bytes, or the error. -/
def textL (x : Sx) : List UInt8 × Int := if x.may then (if 8192 < x.print.length then ([], 41) else (x.print, 0)) else ([], 2)
end Go.Proofs.YtiklliiamljogaaGreatDoor

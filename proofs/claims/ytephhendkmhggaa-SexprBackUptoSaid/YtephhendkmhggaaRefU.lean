/- The reference's Parse. -/
import Derived.Test.YtephhendkmhggaaRefR
import Derived.Test.YtephhendkmhggaaWakes
namespace Go.Proofs.Ytephhendkmhggaa
open Go.RowKit

theorem quo10 {d : Int} (h : d ≤ 9) : Int.tdiv (4611686018427387904 - d) 10 = (4611686018427387904 - d) / 10 := Int.tdiv_eq_ediv_of_nonneg (by omega)

set_option maxHeartbeats 1000000 in
set_option maxRecDepth 100000 in
theorem rparse_loop (s : ByteArray) (w : World) (hs : s.size ≤ 1000000) (hne : byts s ≠ []) (hz : (decide (1 < s.size) && headB (byts s) == 48) = false) :
    Calls Try.prog 53 #[.string s] w fun e w' => (∃ n c, e = .returned (.tuple #[.int .i64 n, .int .i64 c]) ∧ (c == 20) = !((byts s).all fun c => digitN c.toNat)) ∧ w = w' := by
  have h0 : 0 < s.size := by
    rw [← byts_len]
    exact List.length_pos_iff.2 hne
  have h0z : (0 : Int) < s.size := by omega
  have b1 : (s.toList == []) = false := beq_eq_false_iff_ne.2 (by rw [Lib.toList_data]; exact hne)
  have b2 : s.toList.isEmpty = false := by
    rw [Lib.toList_data]
    exact List.isEmpty_eq_false_iff.2 hne
  have hd : headB (byts s) = (s[0]'h0).toNat := by
    have h3 := byts_drop h0
    rw [List.drop_zero] at h3
    rw [h3]
    rfl
  obtain ⟨x0, hx0⟩ : ∃ x0 : UInt8, s[0]'h0 = x0 := ⟨_, rfl⟩
  rw [hd, hx0] at hz
  clear hd hne
  obtain ⟨bb, hbb⟩ : ∃ bb, ((x0.toNat : Int) == 48) = bb := ⟨_, rfl⟩
  obtain ⟨bs, hbs⟩ : ∃ bs, decide ((s.size : Int) > 1) = bs := ⟨_, rfl⟩
  have hb12 : bb = true → bs = false := fun h => by
    rw [h] at hbb
    have e1 : (x0.toNat == 48) = true := beq_iff_eq.2 (by have := beq_iff_eq.1 hbb; omega)
    rw [e1, Bool.and_true] at hz
    rw [← hbs]
    have := of_decide_eq_false hz
    exact decide_eq_false (by omega)
  have hbs' : decide ((1 : Int) < s.size) = bs := hbs
  have HZ := Lib.hid hb12
  clear hz hb12
  obtain ⟨R, hR⟩ : ∃ R, ((byts s).all fun c => digitN c.toNat) = R := ⟨_, rfl⟩
  rw [hR]
  have HR := Lib.hid hR
  clear hR
  have HD := Lib.hid (fun (h : R = true) (i : Nat) (hi : i < s.size) => by
    have h2 := HR.out.trans h
    rw [List.all_eq_true] at h2
    have h3 := h2 (s[i]'hi) (by
      have := byts_drop hi
      have h4 : (s[i]'hi) ∈ (byts s).drop i := by rw [this]; exact List.mem_cons_self
      exact List.mem_of_mem_drop h4)
    exact (of_decide_eq_true h3 : 48 ≤ (s[i]'hi).toNat ∧ (s[i]'hi).toNat < 58))
  cases bb with
  | true =>
    have e2 := HZ.out rfl
    subst e2
    clear HZ
    go_enter Try.func53, Try.ntmps53
    go_wp2
    go_loopg [4] s.size (fun g v wx => w = wx ∧ ∃ i : Nat, i + g = s.size ∧ v = .int .i64 i ∧ ((byts s).drop i).all (fun c => digitN c.toNat) = R)
    case atStart => exact ⟨rfl, 0, by omega, rfl, HR.out⟩
    case round =>
      obtain ⟨rfl, i, hig, rfl, hinv⟩ := hrel
      have HI := Lib.hid hinv
      clear hinv
      cases gk with
      | zero =>
        have d1 : decide ((i : Int) < s.size) = false := by simp; omega
        have hRt : R = true := by rw [← HI.out, byts_end (by omega)]; rfl
        have HT := Lib.hid (HD.out hRt)
        have HE := Lib.hid hRt
        clear hRt HD HI HR
        go_wp2
        go_loopw [6, 5] (fun v d wx => w = wx ∧ ∃ (j : Nat) (n : Int), v = .int .i64 j ∧ d = .int .i64 n ∧ j ≤ s.size ∧ 0 ≤ n ∧ n ≤ 4611686018427387904) (fun v _ _ => (s.size - intOf v).toNat)
        case atStart => exact ⟨rfl, 0, 0, rfl, rfl, by omega, by decide, by decide⟩
        case round =>
          obtain ⟨rfl, j, n, rfl, rfl, hj, hn0, hn1⟩ := hrel
          by_cases hjs : j < s.size
          · have hjz : (j : Int) < (s.size : Int) := by omega
            have d2 : decide ((j : Int) < s.size) = true := decide_eq_true hjz
            have hx8 := (s[j]'hjs).toNat_lt
            have hx9 := HT.out j hjs
            have hqq := quo10 (d := ((s[j]'hjs).toNat : Int) - 48) (by omega)
            have hq := Lib.hid hqq
            by_cases hbig : n > (4611686018427387904 - (((s[j]'hjs).toNat : Int) - 48)) / 10
            · have d3 : decide (n > (4611686018427387904 - (((s[j]'hjs).toNat : Int) - 48)) / 10) = true := decide_eq_true hbig
              have d3' : decide ((4611686018427387904 - (((s[j]'hjs).toNat : Int) - 48)) / 10 < n) = true := d3
              go_wp2
              refine bodyPost_ret (v := .tuple #[.int .i64 0, .int .i64 10]) (by simp [results, Try.results53, go_sem]) rfl ⟨⟨_, _, rfl, ?_⟩, rfl⟩
              rw [HE.out]; rfl
            · have d3 : decide (n > (4611686018427387904 - (((s[j]'hjs).toNat : Int) - 48)) / 10) = false := decide_eq_false hbig
              have d3' : decide ((4611686018427387904 - (((s[j]'hjs).toNat : Int) - 48)) / 10 < n) = false := d3
              go_wp2
              go_roundw
              case measure => simp only [intOf]; omega
              case rel => exact ⟨trivial, j + 1, n * 10 + (((s[j]'hjs).toNat : Int) - 48), by go_num, by go_num, by omega, by omega, by omega⟩
          · have d2 : decide ((j : Int) < s.size) = false := decide_eq_false (by omega)
            go_wp2
            refine bodyPost_ret (v := .tuple #[.int .i64 n, .int .i64 0]) (by simp [results, Try.results53, go_sem]) rfl ⟨⟨_, _, rfl, ?_⟩, rfl⟩
            rw [HE.out]; rfl
      | succ g =>
        have hiz : (i : Int) < (s.size : Int) := by omega
        have hin : i < s.size := by omega
        have d1 : decide ((i : Int) < s.size) = true := decide_eq_true hiz
        have hx8 := (s[i]'hin).toNat_lt
        cases hp : digitN (s[i]'hin).toNat with
        | true =>
          have hp2 : 48 ≤ (s[i]'hin).toNat ∧ (s[i]'hin).toNat < 58 := of_decide_eq_true hp
          have e1 : decide (((s[i]'hin).toNat : Int) < 48) = false := decide_eq_false (by omega)
          have e2 : decide (((s[i]'hin).toNat : Int) > 57) = false := decide_eq_false (by omega)
          have e3 : decide ((57 : Int) < (s[i]'hin).toNat) = false := e2
          have Hp := Lib.hid hp
          clear hp hp2
          go_wp2
          go_roundg g
          case measure => omega
          case rel => exact ⟨rfl, i + 1, by omega, by go_num, by rw [← HI.out, byts_drop hin, List.all_cons, Hp.out, Bool.true_and]⟩
        | false =>
          have HE := Lib.hid (show R = false by rw [← HI.out, byts_drop hin, List.all_cons, hp, Bool.false_and])
          have hp2 : ¬ (48 ≤ (s[i]'hin).toNat ∧ (s[i]'hin).toNat < 58) := of_decide_eq_false hp
          clear hp HD
          by_cases h48 : (s[i]'hin).toNat < 48
          · have e1 : decide (((s[i]'hin).toNat : Int) < 48) = true := decide_eq_true (by omega)
            go_wp2
            refine bodyPost_ret (v := .tuple #[.int .i64 0, .int .i64 20]) (by simp [results, Try.results53, go_sem]) rfl ⟨⟨_, _, rfl, ?_⟩, rfl⟩
            rw [HE.out]; rfl
          · have e1 : decide (((s[i]'hin).toNat : Int) < 48) = false := decide_eq_false (by omega)
            have e2 : decide (((s[i]'hin).toNat : Int) > 57) = true := decide_eq_true (by omega)
            have e3 : decide ((57 : Int) < (s[i]'hin).toNat) = true := e2
            go_wp2
            refine bodyPost_ret (v := .tuple #[.int .i64 0, .int .i64 20]) (by simp [results, Try.results53, go_sem]) rfl ⟨⟨_, _, rfl, ?_⟩, rfl⟩
            rw [HE.out]; rfl
  | false =>
    clear HZ
    go_enter Try.func53, Try.ntmps53
    go_wp2
    go_loopg [4] s.size (fun g v wx => w = wx ∧ ∃ i : Nat, i + g = s.size ∧ v = .int .i64 i ∧ ((byts s).drop i).all (fun c => digitN c.toNat) = R)
    case atStart => exact ⟨rfl, 0, by omega, rfl, HR.out⟩
    case round =>
      obtain ⟨rfl, i, hig, rfl, hinv⟩ := hrel
      have HI := Lib.hid hinv
      clear hinv
      cases gk with
      | zero =>
        have d1 : decide ((i : Int) < s.size) = false := by simp; omega
        have hRt : R = true := by rw [← HI.out, byts_end (by omega)]; rfl
        have HT := Lib.hid (HD.out hRt)
        have HE := Lib.hid hRt
        clear hRt HD HI HR
        go_wp2
        go_loopw [6, 5] (fun v d wx => w = wx ∧ ∃ (j : Nat) (n : Int), v = .int .i64 j ∧ d = .int .i64 n ∧ j ≤ s.size ∧ 0 ≤ n ∧ n ≤ 4611686018427387904) (fun v _ _ => (s.size - intOf v).toNat)
        case atStart => exact ⟨rfl, 0, 0, rfl, rfl, by omega, by decide, by decide⟩
        case round =>
          obtain ⟨rfl, j, n, rfl, rfl, hj, hn0, hn1⟩ := hrel
          by_cases hjs : j < s.size
          · have hjz : (j : Int) < (s.size : Int) := by omega
            have d2 : decide ((j : Int) < s.size) = true := decide_eq_true hjz
            have hx8 := (s[j]'hjs).toNat_lt
            have hx9 := HT.out j hjs
            have hqq := quo10 (d := ((s[j]'hjs).toNat : Int) - 48) (by omega)
            have hq := Lib.hid hqq
            by_cases hbig : n > (4611686018427387904 - (((s[j]'hjs).toNat : Int) - 48)) / 10
            · have d3 : decide (n > (4611686018427387904 - (((s[j]'hjs).toNat : Int) - 48)) / 10) = true := decide_eq_true hbig
              have d3' : decide ((4611686018427387904 - (((s[j]'hjs).toNat : Int) - 48)) / 10 < n) = true := d3
              go_wp2
              refine bodyPost_ret (v := .tuple #[.int .i64 0, .int .i64 10]) (by simp [results, Try.results53, go_sem]) rfl ⟨⟨_, _, rfl, ?_⟩, rfl⟩
              rw [HE.out]; rfl
            · have d3 : decide (n > (4611686018427387904 - (((s[j]'hjs).toNat : Int) - 48)) / 10) = false := decide_eq_false hbig
              have d3' : decide ((4611686018427387904 - (((s[j]'hjs).toNat : Int) - 48)) / 10 < n) = false := d3
              go_wp2
              go_roundw
              case measure => simp only [intOf]; omega
              case rel => exact ⟨trivial, j + 1, n * 10 + (((s[j]'hjs).toNat : Int) - 48), by go_num, by go_num, by omega, by omega, by omega⟩
          · have d2 : decide ((j : Int) < s.size) = false := decide_eq_false (by omega)
            go_wp2
            refine bodyPost_ret (v := .tuple #[.int .i64 n, .int .i64 0]) (by simp [results, Try.results53, go_sem]) rfl ⟨⟨_, _, rfl, ?_⟩, rfl⟩
            rw [HE.out]; rfl
      | succ g =>
        have hiz : (i : Int) < (s.size : Int) := by omega
        have hin : i < s.size := by omega
        have d1 : decide ((i : Int) < s.size) = true := decide_eq_true hiz
        have hx8 := (s[i]'hin).toNat_lt
        cases hp : digitN (s[i]'hin).toNat with
        | true =>
          have hp2 : 48 ≤ (s[i]'hin).toNat ∧ (s[i]'hin).toNat < 58 := of_decide_eq_true hp
          have e1 : decide (((s[i]'hin).toNat : Int) < 48) = false := decide_eq_false (by omega)
          have e2 : decide (((s[i]'hin).toNat : Int) > 57) = false := decide_eq_false (by omega)
          have e3 : decide ((57 : Int) < (s[i]'hin).toNat) = false := e2
          have Hp := Lib.hid hp
          clear hp hp2
          go_wp2
          go_roundg g
          case measure => omega
          case rel => exact ⟨rfl, i + 1, by omega, by go_num, by rw [← HI.out, byts_drop hin, List.all_cons, Hp.out, Bool.true_and]⟩
        | false =>
          have HE := Lib.hid (show R = false by rw [← HI.out, byts_drop hin, List.all_cons, hp, Bool.false_and])
          have hp2 : ¬ (48 ≤ (s[i]'hin).toNat ∧ (s[i]'hin).toNat < 58) := of_decide_eq_false hp
          clear hp HD
          by_cases h48 : (s[i]'hin).toNat < 48
          · have e1 : decide (((s[i]'hin).toNat : Int) < 48) = true := decide_eq_true (by omega)
            go_wp2
            refine bodyPost_ret (v := .tuple #[.int .i64 0, .int .i64 20]) (by simp [results, Try.results53, go_sem]) rfl ⟨⟨_, _, rfl, ?_⟩, rfl⟩
            rw [HE.out]; rfl
          · have e1 : decide (((s[i]'hin).toNat : Int) < 48) = false := decide_eq_false (by omega)
            have e2 : decide (((s[i]'hin).toNat : Int) > 57) = true := decide_eq_true (by omega)
            have e3 : decide ((57 : Int) < (s[i]'hin).toNat) = true := e2
            go_wp2
            refine bodyPost_ret (v := .tuple #[.int .i64 0, .int .i64 20]) (by simp [results, Try.results53, go_sem]) rfl ⟨⟨_, _, rfl, ?_⟩, rfl⟩
            rw [HE.out]; rfl

theorem rparse_ok (s : ByteArray) (w : World) (hs : s.size ≤ 1000000) :
    Calls Try.prog 53 #[.string s] w fun e w' => (∃ n c, e = .returned (.tuple #[.int .i64 n, .int .i64 c]) ∧ (c == 20) = !numL (byts s)) ∧ w = w' := by
  by_cases hne : byts s = []
  · have b1 : (s.toList == []) = true := by rw [Lib.toList_data]; exact beq_iff_eq.2 hne
    have b2 : s.toList.isEmpty = true := by rw [Lib.toList_data]; exact List.isEmpty_iff.2 hne
    have HE := Lib.hid (show numL (byts s) = false by rw [hne]; rfl)
    clear hne
    go_enter Try.func53, Try.ntmps53
    go_wp2
    refine bodyPost_ret (v := .tuple #[.int .i64 0, .int .i64 20]) (by simp [results, Try.results53, go_sem]) rfl ⟨⟨_, _, rfl, ?_⟩, rfl⟩
    rw [HE.out]; rfl
  · have b2 : s.toList.isEmpty = false := by rw [Lib.toList_data]; exact List.isEmpty_eq_false_iff.2 hne
    have b2' : (byts s).isEmpty = false := List.isEmpty_eq_false_iff.2 hne
    cases hz : decide (1 < s.size) && headB (byts s) == 48 with
    | false =>
      refine (rparse_loop s w hs hne hz).mono ?_
      rintro e w' ⟨⟨n, c, h1, h2⟩, h3⟩
      refine ⟨⟨n, c, h1, ?_⟩, h3⟩
      rw [h2]
      unfold numL
      rw [byts_len, hz, b2']
      rfl
    | true =>
      have HE := Lib.hid (show numL (byts s) = false by unfold numL; rw [byts_len, hz]; simp)
      rw [Bool.and_eq_true] at hz
      have h1 := of_decide_eq_true hz.1
      have h0 : 0 < s.size := by omega
      have h0z : (0 : Int) < s.size := by omega
      have d1 : decide ((1 : Int) < s.size) = true := decide_eq_true (by omega)
      have d1' : decide ((s.size : Int) > 1) = true := d1
      have b1 : (s.toList == []) = false := beq_eq_false_iff_ne.2 (by rw [Lib.toList_data]; exact hne)
      have hd : headB (byts s) = (s[0]'h0).toNat := by
        have h3 := byts_drop h0
        rw [List.drop_zero] at h3
        rw [h3]
        rfl
      have h48 := beq_iff_eq.1 hz.2
      rw [hd] at h48
      have b4 : (((s[0]'h0).toNat : Int) == 48) = true := beq_iff_eq.2 (by omega)
      clear hz hd h48 hne b2'
      go_enter Try.func53, Try.ntmps53
      go_wp2
      refine bodyPost_ret (v := .tuple #[.int .i64 0, .int .i64 20]) (by simp [results, Try.results53, go_sem]) rfl ⟨⟨_, _, rfl, ?_⟩, rfl⟩
      rw [HE.out]; rfl
end Go.Proofs.Ytephhendkmhggaa

/- The reference's stands, May. -/
namespace Go.Proofs.Ytephhendkmhggaa
open Go.RowKit

set_option maxHeartbeats 1000000 in
set_option maxRecDepth 100000 in
theorem rstands_ok {S : Nat → Prop} (x : Sx) : x.fits → ∀ (v : Value) (w : World), Lies S w v x → Calls Try.prog 34 #[v] w fun e w' => e = .returned (.bool x.stands) ∧ Below w.heap.size w w' := by
  induction x using Sx.ind with
  | h k T l ih =>
  intro hf v w hv
  obtain ⟨t, A, c, rfl, rfl, hlc, hnil, hmax, hk⟩ := hv.open_
  rw [Sx.fits] at hf
  have hts : t.size ≤ 1000000 := by rw [← byts_len]; exact hf.1
  have hS : (Sx.mk k (byts t) l).stands = if k = 0 then l.isEmpty && mayL (byts t) else if k = 1 then l.isEmpty && (numL (byts t) && decide ((byts t).length ≤ 100)) else if k = 2 then l.isEmpty && kwL (byts t) else if k = 3 then (byts t).isEmpty && Sx.standss l else false := by rw [Sx.stands]
  rw [hS]
  clear hS
  have HI := Lib.hid (fun y hy => ih y hy (fitss_mem hf.2 hy))
  have HK := Lib.hid hk
  have HM := Lib.hid (fun w => rmay_ok t w hts)
  have HP := Lib.hid (fun w => rparse_ok t w hts)
  have HW := Lib.hid (fun w => rkey_ok t w hts)
  have hbx := Blk.new w 26 #[.int .i8 k, .string t, .slice A l.length c]
  have hb0 : Below w.heap.size w (w.alloc (.cells #[.int .i8 k, .string t, .slice A l.length c] 26)) := (Below.refl _ w).alloc (Nat.le_refl _) _
  have HB0 := Lib.hid hb0
  have HBX := Lib.hid hbx
  clear ih hk hnil hv hf hb0 hbx
  have hle : (l.isEmpty = true ∧ l.length = 0) ∨ (l.isEmpty = false ∧ 0 < l.length) := by cases l <;> simp
  by_cases h3 : k = 3
  · subst h3
    rw [if_neg (by decide), if_neg (by decide), if_neg (by decide), if_pos rfl]
    clear HM HP HW
    have he1 : (t.toList == []) = (byts t).isEmpty := by
      rw [Lib.toList_data]
      exact (fun l : List UInt8 => (by cases l <;> rfl : (l == []) = l.isEmpty)) (byts t)
    have he2 : t.toList.isEmpty = (byts t).isEmpty := by rw [Lib.toList_data]
    obtain ⟨be, hbe⟩ : ∃ be, (byts t).isEmpty = be := ⟨_, rfl⟩
    rw [hbe] at he1 he2 ⊢
    clear hbe
    obtain ⟨R, hR⟩ : ∃ R, Sx.standss l = R := ⟨_, rfl⟩
    rw [hR]
    have HR := Lib.hid hR
    clear hR
    go_enter Try.func34, Try.ntmps34
    go_wp2
    have hbx := HBX.out
    have hB0 := HB0.out
    generalize w.alloc (.cells #[.int .i8 3, .string t, .slice A l.length c] 26) = w0 at *
    have hlt0 := hbx.lt
    go_loopg [5] l.length (fun g v wx => Below w0.heap.size w0 wx ∧ ∃ i : Nat, i + g = l.length ∧ v = .int .i64 i ∧ Sx.standss (l.drop i) = R)
    case atStart => exact ⟨Below.refl _ _, 0, by omega, rfl, HR.out⟩
    case round =>
      obtain ⟨hBx, i, hig, rfl, hinv⟩ := hrel
      have hB := hB0.trans (hBx.mono (Nat.le_of_lt hlt0))
      have x1 := (hbx.below hBx hlt0).cell 1
      have x2 := (hbx.below hBx hlt0).cell 2
      simp only [List.getElem?_toArray, List.getElem?_cons_zero, List.getElem?_cons_succ] at x1 x2
      have HV := Lib.hid hinv
      clear hinv HR
      cases gk with
      | zero =>
        have d1 : decide ((i : Int) < l.length) = false := decide_eq_false (by omega)
        have HE := Lib.hid (show R = true by rw [← HV.out, List.drop_eq_nil_of_le (by omega), Sx.standss])
        clear HI HK HV
        go_wp2
        go_ret
        exact ⟨by rw [HE.out, Bool.and_true]; rfl, hB⟩
      | succ g =>
        have hiz : (i : Int) < (l.length : Int) := by omega
        have hin : i < l.length := by omega
        have d1 : decide ((i : Int) < l.length) = true := decide_eq_true hiz
        obtain ⟨b, off, k1, t1, B1, n1, m1, rfl, _, hlt, y0, y1, y2, hy⟩ := (HK.out.keep hB) i hin
        have HY := Lib.hid (HI.out (l[i]) (List.getElem_mem hin) _ wr hy)
        have HD := Lib.hid (standss_drop l i hin)
        clear hy HK HI
        obtain ⟨bs, hbs⟩ : ∃ bs, (l[i]).stands = bs := ⟨_, rfl⟩
        rw [hbs] at HY HD
        clear hbs
        cases bs with
        | true =>
          go_wp2_with (go_at_call 34; refine HY.out.mono ?_; rintro e w1 ⟨rfl, hb1⟩)
          go_roundg g
          case measure => omega
          case rel => exact ⟨hBx.trans (hb1.mono hBx.size), i + 1, by omega, by go_num, by rw [← HV.out, HD.out, Bool.true_and]⟩
        | false =>
          have HE := Lib.hid (show R = false by rw [← HV.out, HD.out, Bool.false_and])
          go_wp2_with (go_at_call 34; refine HY.out.mono ?_; rintro e w1 ⟨rfl, hb1⟩)
          go_ret
          exact ⟨by rw [HE.out, Bool.and_false]; rfl, hB.trans (hb1.mono hB.size)⟩
  rw [if_neg h3]
  have b3 : (k != 3) = true := bne_iff_ne.2 h3
  have b3' : (k == 3) = false := beq_eq_false_iff_ne.2 h3
  rcases hle with ⟨hl1, hl2⟩ | ⟨hl1, hl2⟩
  · rw [hl2] at HB0
    have hlz : (l.length : Int) = 0 := by omega
    have dl : decide ((l.length : Int) > 0) = false := decide_eq_false (by omega)
    have dl' : decide ((0 : Int) < l.length) = false := dl
    rw [hl1, Bool.true_and, Bool.true_and, Bool.true_and]
    clear HI HK
    by_cases h0 : k = 0
    · subst h0
      rw [if_pos rfl]
      clear HP HW h3
      obtain ⟨m, hm⟩ : ∃ m, mayL (byts t) = m := ⟨_, rfl⟩
      rw [hm] at HM ⊢
      clear hm
      go_enter Try.func34, Try.ntmps34
      go_wp2_with (go_at_call 52; refine (HM.out _).mono ?_; rintro e w1 ⟨rfl, rfl⟩)
      go_ret
      exact ⟨rfl, HB0.out⟩
    rw [if_neg h0]
    by_cases h1 : k = 1
    · subst h1
      rw [if_pos rfl, byts_len]
      clear HM HW h3 h0
      have hdt : decide ((t.size : Int) ≤ 100) = decide (t.size ≤ 100) := by
        by_cases hn : t.size ≤ 100
        · rw [decide_eq_true hn]; exact decide_eq_true (by omega)
        · rw [decide_eq_false hn]; exact decide_eq_false (by omega)
      obtain ⟨bt, hbt⟩ : ∃ bt, decide (t.size ≤ 100) = bt := ⟨_, rfl⟩
      rw [hbt] at hdt ⊢
      obtain ⟨m, hm⟩ : ∃ m, numL (byts t) = m := ⟨_, rfl⟩
      rw [hm] at HP ⊢
      clear hm hbt
      cases m with
      | true =>
        go_enter Try.func34, Try.ntmps34
        go_wp2_with (go_at_call 53; refine (HP.out _).mono ?_; rintro e w1 ⟨⟨nv, cv, rfl, hcv⟩, rfl⟩; have hcn : (cv != 20) = true := (by show (!(cv == 20)) = true; rw [hcv]; rfl))
        go_ret
        exact ⟨by cases bt <;> rfl, HB0.out⟩
      | false =>
        go_enter Try.func34, Try.ntmps34
        go_wp2_with (go_at_call 53; refine (HP.out _).mono ?_; rintro e w1 ⟨⟨nv, cv, rfl, hcv⟩, rfl⟩; have hcn : (cv != 20) = false := (by show (!(cv == 20)) = false; rw [hcv]; rfl))
        go_ret
        exact ⟨rfl, HB0.out⟩
    rw [if_neg h1]
    by_cases h2 : k = 2
    · subst h2
      rw [if_pos rfl]
      clear HP HM h3 h0 h1
      obtain ⟨m, hm⟩ : ∃ m, kwL (byts t) = m := ⟨_, rfl⟩
      rw [hm] at HW ⊢
      clear hm
      go_enter Try.func34, Try.ntmps34
      go_wp2_with (go_at_call 54; refine (HW.out _).mono ?_; rintro e w1 ⟨rfl, rfl⟩)
      go_ret
      exact ⟨rfl, HB0.out⟩
    rw [if_neg h2]
    have b0 : (k == 0) = false := beq_eq_false_iff_ne.2 h0
    have b1 : (k == 1) = false := beq_eq_false_iff_ne.2 h1
    have b2 : (k == 2) = false := beq_eq_false_iff_ne.2 h2
    clear h0 h1 h2 h3 HM HP HW
    go_enter Try.func34, Try.ntmps34
    go_wp2
    go_ret
    exact ⟨rfl, HB0.out⟩
  · have hlz : (0 : Int) < (l.length : Int) := by omega
    have dl : decide ((l.length : Int) > 0) = true := decide_eq_true (by omega)
    rw [hl1, Bool.false_and, Bool.false_and, Bool.false_and, ite_self, ite_self, ite_self]
    clear HI HK HM HP HW h3
    go_enter Try.func34, Try.ntmps34
    go_wp2
    go_ret
    exact ⟨rfl, HB0.out⟩

set_option maxRecDepth 100000 in
theorem rmay3_ok {S : Nat → Prop} (x : Sx) (hf : x.fits) (hd : x.depth < 9223372036854775807) (w : World) (v : Value) (hl : Lies S w v x) :
    Calls Try.prog 18 #[v] w fun e w' => e = .returned (.bool x.may) ∧ Below w.heap.size w w' := by
  obtain ⟨y, rfl⟩ := hl.c3
  have hb : Below w.heap.size w (w.alloc (.cells #[.int .i8 y.k, .string y.t, .slice y.A y.n y.c] 26)) := (Below.refl _ w).alloc (Nat.le_refl _) _
  have hB := Blk.new w 26 #[.int .i8 y.k, .string y.t, .slice y.A y.n y.c]
  have HD := Lib.hid (rdepth_ok x hd _ _ (hl.keep hb))
  have HS := Lib.hid (fun w1 (h1 : Below (w.alloc (.cells #[.int .i8 y.k, .string y.t, .slice y.A y.n y.c] 26)).heap.size (w.alloc (.cells #[.int .i8 y.k, .string y.t, .slice y.A y.n y.c] 26)) w1) => rstands_ok x hf _ w1 ((hl.keep hb).keep h1))
  unfold Sx.may
  obtain ⟨dx, hdx⟩ : ∃ dx, x.depth = dx := ⟨_, rfl⟩
  obtain ⟨bs, hbs⟩ : ∃ bs, x.stands = bs := ⟨_, rfl⟩
  rw [hdx] at HD ⊢
  rw [hbs] at HS ⊢
  have HB := Lib.hid hb
  have HBK := Lib.hid hB
  clear hdx hbs hl hb hB hf hd
  unfold C3.val at HD HS ⊢
  by_cases h : dx ≤ 60
  · have d1 : decide ((dx : Int) ≤ 60) = true := decide_eq_true (by omega)
    rw [decide_eq_true h]
    go_enter Try.func18, Try.ntmps18
    go_wp2_with (first
      | (go_at_call 20; refine HD.out.mono ?_; rintro e w1 ⟨rfl, hb1⟩; obtain ⟨x0, x1, x2, _⟩ := blk3 (HBK.out.below hb1 HBK.out.lt))
      | (go_at_call 34; refine (HS.out _ hb1).mono ?_; rintro e w2 ⟨rfl, hb2⟩))
    go_ret
    exact ⟨by cases bs <;> rfl, (HB.out.trans (hb1.mono HB.out.size)).trans (hb2.mono (Nat.le_trans HB.out.size hb1.size))⟩
  · have d1 : decide ((dx : Int) ≤ 60) = false := decide_eq_false (by omega)
    rw [decide_eq_false h]
    go_enter Try.func18, Try.ntmps18
    go_wp2_with (first
      | (go_at_call 20; refine HD.out.mono ?_; rintro e w1 ⟨rfl, hb1⟩))
    go_ret
    exact ⟨rfl, HB.out.trans (hb1.mono HB.out.size)⟩
end Go.Proofs.Ytephhendkmhggaa

/- The reference's text, Text. -/
namespace Go.Proofs.Ytephhendkmhggaa
open Go.RowKit

theorem prints_take1 (l : List Sx) (h : 0 < l.length) : Sx.prints (l.take 1) = (l[0]).print := by
  have hsn := List.take_succ_eq_append_getElem h
  rw [Nat.zero_add] at hsn
  rw [hsn]
  simp [Sx.prints, Sx.tails]

set_option maxHeartbeats 1000000 in
set_option maxRecDepth 100000 in
theorem rtext_ok {S : Nat → Prop} (x : Sx) : x.stands = true → x.print.length ≤ 100000000 → ∀ (v : Value) (w : World), Lies S w v x → Calls Try.prog 32 #[v] w fun e w' => (∃ q, e = .returned (.string q) ∧ byts q = x.print) ∧ Below w.heap.size w w' := by
  induction x using Sx.ind with
  | h k T l ih =>
  intro hst hpl v w hv
  obtain ⟨t, A, c, rfl, rfl, hlc, hnil, hmax, hk⟩ := hv.open_
  rw [Sx.stands] at hst
  have hS : (Sx.mk k (byts t) l).print = if k = 0 then quoteL (byts t) else if k = 2 then 58 :: byts t else if k = 3 then 40 :: (Sx.prints l ++ [41]) else byts t := by rw [Sx.print]
  rw [hS] at hpl ⊢
  clear hS
  have HK := Lib.hid hk
  have hbx := Blk.new w 26 #[.int .i8 k, .string t, .slice A l.length c]
  have hb0 : Below w.heap.size w (w.alloc (.cells #[.int .i8 k, .string t, .slice A l.length c] 26)) := (Below.refl _ w).alloc (Nat.le_refl _) _
  have HB0 := Lib.hid hb0
  have HBX := Lib.hid hbx
  clear hk hnil hv hb0 hbx
  by_cases h0 : k = 0
  · subst h0
    rw [if_pos rfl] at hst ⊢
    have hts : t.size ≤ 1000 := by
      rw [Bool.and_eq_true] at hst
      have hm := hst.2
      unfold mayL at hm
      rw [Bool.and_eq_true, byts_len] at hm
      have := of_decide_eq_true hm.1
      omega
    have HQ := Lib.hid (fun w => rquote_ok t w hts)
    clear ih hst hpl HK
    go_enter Try.func32, Try.ntmps32
    go_wp2_with (go_at_call 47; refine (HQ.out _).mono ?_; rintro e w1 ⟨⟨q, rfl, hq⟩, rfl⟩)
    go_ret
    exact ⟨⟨q, rfl, hq⟩, HB0.out⟩
  rw [if_neg h0] at hst hpl ⊢
  by_cases h2 : k = 2
  · subst h2
    rw [if_pos rfl] at hpl ⊢
    have hts : t.size ≤ 100000000 := by rw [List.length_cons, byts_len] at hpl; omega
    clear ih hst hpl HK
    go_enter Try.func32, Try.ntmps32
    go_wp2
    go_ret
    exact ⟨⟨_, rfl, by simp [byts]⟩, HB0.out⟩
  rw [if_neg h2] at hst hpl ⊢
  by_cases h3 : k = 3
  · subst h3
    rw [if_pos rfl] at hpl ⊢
    rw [if_neg (by decide), if_pos rfl, Bool.and_eq_true] at hst
    have HI := Lib.hid (fun y hy => ih y hy (standss_mem hst.2 hy))
    have hpl' : (Sx.prints l).length + 2 ≤ 100000000 := by
      rw [List.length_cons, List.length_append] at hpl
      simpa using hpl
    clear ih hst hpl h0 h2
    go_enter Try.func32, Try.ntmps32
    go_wp2
    have hbx := HBX.out
    have hB0 := HB0.out
    generalize w.alloc (.cells #[.int .i8 3, .string t, .slice A l.length c] 26) = w0 at *
    have hlt0 := hbx.lt
    go_loopw [4, 3] (fun v d wx => Below w0.heap.size w0 wx ∧ ∃ (i : Nat) (o : ByteArray), i ≤ l.length ∧ v = .int .i64 i ∧ d = .string o ∧ byts o = 40 :: Sx.prints (l.take i)) (fun v _ _ => (l.length - intOf v).toNat)
    case atStart => exact ⟨Below.refl _ _, 0, _, Nat.zero_le _, rfl, rfl, rfl⟩
    case round =>
      obtain ⟨hBx, i, o, hi, rfl, rfl, ho⟩ := hrel
      have hB := hB0.trans (hBx.mono (Nat.le_of_lt hlt0))
      have x2 := (hbx.below hBx hlt0).cell 2
      simp only [List.getElem?_toArray, List.getElem?_cons_zero, List.getElem?_cons_succ] at x2
      have htk := prints_take l i
      have hos : o.size ≤ 100000000 := by
        rw [← byts_len, ho, List.length_cons]
        omega
      have HO := Lib.hid ho
      clear ho htk
      by_cases hin : i < l.length
      · have hiz : (i : Int) < (l.length : Int) := by omega
        have d1 : decide ((i : Int) < l.length) = true := decide_eq_true hiz
        obtain ⟨b, off, k1, t1, B1, n1, m1, rfl, _, hlt, y0, y1, y2, hy⟩ := (HK.out.keep hB) i hin
        have htk := prints_take l (i + 1)
        have hsn := List.take_succ_eq_append_getElem hin
        by_cases hi0 : i = 0
        · subst hi0
          have e1 := prints_take1 l hin
          rw [Nat.zero_add, e1] at htk
          have hol : o.size ≤ 1 := by rw [← byts_len, HO.out]; simp [Sx.prints]
          have HY := Lib.hid (HI.out (l[0]) (List.getElem_mem hin) (by omega) _ wr hy)
          have HE := Lib.hid e1
          have hys : (l[0]).print.length ≤ 100000000 := by omega
          obtain ⟨pr, hpr⟩ : ∃ pr, (l[0]).print = pr := ⟨_, rfl⟩
          rw [hpr] at HY HE hys
          rw [Nat.zero_mul, Nat.add_zero] at y0 y1 y2
          clear hy HK HI e1 htk hsn hpr
          go_wp2_with (go_at_call 32; refine HY.out.mono ?_; rintro e w1 ⟨⟨q, rfl, hq⟩, hb1⟩; have hqs : q.size ≤ 100000000 := (by rw [← byts_len, hq]; exact hys); have HQ := Lib.hid hq; clear hq)
          go_roundw
          case rel =>
            refine ⟨hBx.trans (hb1.mono hBx.size), 1, _, by omega, by go_num, rfl, ?_⟩
            rw [HE.out]
            have h1 := HO.out
            have h2 := HQ.out
            simp only [byts] at h1 h2 ⊢
            simp [h1, h2, Sx.prints]
          case measure => simp only [intOf]; omega
        · have d2 : decide ((i : Int) > 0) = true := decide_eq_true (by omega)
          have d3 : decide ((0 : Int) < (i : Int)) = true := decide_eq_true (by omega)
          have hne : l.take i ≠ [] := fun e => by
            have := congrArg List.length e
            rw [List.length_take, List.length_nil] at this
            omega
          have e1 : Sx.prints (l.take (i + 1)) = Sx.prints (l.take i) ++ 32 :: (l[i]).print := by rw [hsn, prints_snoc _ _ hne]
          rw [e1, List.length_append, List.length_cons] at htk
          have hos2 : o.size + (l[i]).print.length + 1 ≤ 100000000 := by
            rw [← byts_len, HO.out, List.length_cons]
            omega
          have HY := Lib.hid (HI.out (l[i]) (List.getElem_mem hin) (by omega) _ wr hy)
          have HE := Lib.hid e1
          obtain ⟨pr, hpr⟩ : ∃ pr, (l[i]).print = pr := ⟨_, rfl⟩
          rw [hpr] at HY HE hos2
          clear hy HK HI e1 htk hsn hpr hne
          go_wp2_with (go_at_call 32; refine HY.out.mono ?_; rintro e w1 ⟨⟨q, rfl, hq⟩, hb1⟩; have hqs : q.size ≤ 100000000 := (by rw [← byts_len, hq]; omega); have HQ := Lib.hid hq; clear hq)
          go_roundw
          case rel =>
            refine ⟨hBx.trans (hb1.mono hBx.size), i + 1, _, by omega, by go_num, rfl, ?_⟩
            rw [HE.out]
            have h1 := HO.out
            have h2 := HQ.out
            simp only [byts] at h1 h2 ⊢
            simp [h1, h2]
          case measure => simp only [intOf]; omega
      · have d1 : decide ((i : Int) < l.length) = false := decide_eq_false (by omega)
        have HE := Lib.hid (show byts o = 40 :: Sx.prints l by rw [HO.out, List.take_of_length_le (by omega)])
        clear HI HK
        go_wp2
        go_ret
        refine ⟨⟨_, rfl, ?_⟩, hB⟩
        have h1 := HE.out
        simp only [byts] at h1 ⊢
        simp [h1]
  rw [if_neg h3] at hpl ⊢
  have b0 : (k == 0) = false := beq_eq_false_iff_ne.2 h0
  have b2 : (k == 2) = false := beq_eq_false_iff_ne.2 h2
  have b3 : (k == 3) = false := beq_eq_false_iff_ne.2 h3
  clear h0 h2 h3 ih HK hst hpl
  go_enter Try.func32, Try.ntmps32
  go_wp2
  go_ret
  exact ⟨⟨t, rfl, rfl⟩, HB0.out⟩

set_option maxRecDepth 100000 in
theorem rtext3_ok {S : Nat → Prop} (x : Sx) (hf : x.fits) (hd : x.depth < 9223372036854775807) (hpl : x.print.length ≤ 100000000) (w : World) (v : Value) (hl : Lies S w v x) :
    Calls Try.prog 16 #[v] w fun e w' => (∃ q c, e = .returned (.tuple #[.string q, .int .i64 c]) ∧ (byts q, c) = textL x) ∧ Below w.heap.size w w' := by
  obtain ⟨y, rfl⟩ := hl.c3
  have hb : Below w.heap.size w (w.alloc (.cells #[.int .i8 y.k, .string y.t, .slice y.A y.n y.c] 26)) := (Below.refl _ w).alloc (Nat.le_refl _) _
  have hB := Blk.new w 26 #[.int .i8 y.k, .string y.t, .slice y.A y.n y.c]
  have HM := Lib.hid (rmay3_ok x hf hd _ _ (hl.keep hb))
  have HT := Lib.hid (fun (hst : x.stands = true) w1 (h1 : Below (w.alloc (.cells #[.int .i8 y.k, .string y.t, .slice y.A y.n y.c] 26)).heap.size (w.alloc (.cells #[.int .i8 y.k, .string y.t, .slice y.A y.n y.c] 26)) w1) => rtext_ok x hst hpl _ w1 ((hl.keep hb).keep h1))
  obtain ⟨R, hR⟩ : ∃ R, textL x = R := ⟨_, rfl⟩
  rw [hR]
  unfold textL at hR
  have HB := Lib.hid hb
  have HBK := Lib.hid hB
  clear hl hb hB hf hd
  unfold C3.val at HM HT ⊢
  cases hm : x.may with
  | false =>
    rw [hm] at HM hR
    have HR := Lib.hid hR
    clear hR hm HT hpl
    go_enter Try.func16, Try.ntmps16
    go_wp2_with (go_at_call 18; refine HM.out.mono ?_; rintro e w1 ⟨rfl, hb1⟩)
    exact bodyPost_ret (v := .tuple #[.string ⟨#[]⟩, .int .i64 2]) (by simp [results, Try.results16, go_sem]) rfl ⟨⟨_, _, rfl, HR.out⟩, HB.out.trans (hb1.mono HB.out.size)⟩
  | true =>
    rw [hm] at HM hR
    have hst : x.stands = true := by
      unfold Sx.may at hm
      rw [Bool.and_eq_true] at hm
      exact hm.2
    have HT := Lib.hid (HT.out hst)
    obtain ⟨pr, hpr⟩ : ∃ pr, x.print = pr := ⟨_, rfl⟩
    rw [hpr] at HT hR hpl
    clear hm hst hpr
    by_cases h8 : 8192 < pr.length
    · rw [if_pos h8, if_pos rfl] at hR
      have HR := Lib.hid hR
      clear hR
      go_enter Try.func16, Try.ntmps16
      go_wp2_with (first
        | (go_at_call 18; refine HM.out.mono ?_; rintro e w1 ⟨rfl, hb1⟩; obtain ⟨x0, x1, x2, _⟩ := blk3 (HBK.out.below hb1 HBK.out.lt))
        | (go_at_call 32; refine (HT.out _ hb1).mono ?_; rintro e w2 ⟨⟨q, rfl, hq⟩, hb2⟩; have hqs : q.size = pr.length := (by rw [← byts_len, hq]); have d1 : decide ((q.size : Int) > 8192) = true := decide_eq_true (by omega); have d1' : decide ((8192 : Int) < q.size) = true := d1; have HQ := Lib.hid hq; clear hq))
      exact bodyPost_ret (v := .tuple #[.string ⟨#[]⟩, .int .i64 41]) (by simp [results, Try.results16, go_sem]) rfl ⟨⟨_, _, rfl, HR.out⟩, (HB.out.trans (hb1.mono HB.out.size)).trans (hb2.mono (Nat.le_trans HB.out.size hb1.size))⟩
    · rw [if_neg h8, if_pos rfl] at hR
      have HR := Lib.hid hR
      clear hR
      go_enter Try.func16, Try.ntmps16
      go_wp2_with (first
        | (go_at_call 18; refine HM.out.mono ?_; rintro e w1 ⟨rfl, hb1⟩; obtain ⟨x0, x1, x2, _⟩ := blk3 (HBK.out.below hb1 HBK.out.lt))
        | (go_at_call 32; refine (HT.out _ hb1).mono ?_; rintro e w2 ⟨⟨q, rfl, hq⟩, hb2⟩; have hqs : q.size = pr.length := (by rw [← byts_len, hq]); have d1 : decide ((q.size : Int) > 8192) = false := decide_eq_false (by omega); have d1' : decide ((8192 : Int) < q.size) = false := d1; have HQ := Lib.hid hq; clear hq))
      exact bodyPost_ret (v := .tuple #[.string q, .int .i64 0]) (by simp [results, Try.results16, go_sem]) rfl ⟨⟨_, _, rfl, by rw [HQ.out]; exact HR.out⟩, (HB.out.trans (hb1.mono HB.out.size)).trans (hb2.mono (Nat.le_trans HB.out.size hb1.size))⟩
end Go.Proofs.Ytephhendkmhggaa

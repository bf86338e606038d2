/- May's parts at an expression that lies anywhere. -/
import Derived.Test.YtephhendkmhggaaStB
namespace Go.Proofs.Ytephhendkmhggaa
open Go.RowKit

set_option maxHeartbeats 1000000 in
set_option maxRecDepth 100000 in
theorem parse_ok (s : ByteArray) (w : World) (hs : s.size < 9223372036854775807) :
    Calls Try.prog 74 #[.string s] w fun e w' => (∃ n c, e = .returned (.tuple #[.int .i64 n, .int .i64 c]) ∧ (c == 20) = !numL (byts s)) ∧ Below w.heap.size w w' := by
  by_cases hne : byts s = []
  · have b1 : (s.toList == []) = true := by rw [Lib.toList_data]; exact beq_iff_eq.2 hne
    have b2 : s.toList.isEmpty = true := by rw [Lib.toList_data]; exact List.isEmpty_iff.2 hne
    have HE := Lib.hid (show numL (byts s) = false by rw [hne]; rfl)
    go_enter Try.func74, Try.ntmps74
    go_wp2
    refine bodyPost_ret (v := .tuple #[.int .i64 0, .int .i64 20]) (by simp [results, Try.results74, go_sem]) rfl ⟨⟨_, _, rfl, ?_⟩, Below.refl _ _⟩
    rw [HE.out]; rfl
  · have b2 : s.toList.isEmpty = false := by rw [Lib.toList_data]; exact List.isEmpty_eq_false_iff.2 hne
    have b2' : (byts s).isEmpty = false := List.isEmpty_eq_false_iff.2 hne
    cases hz : decide (1 < s.size) && headB (byts s) == 48 with
    | false =>
      refine (parse_loop s w hs hne hz).mono ?_
      rintro e w' ⟨⟨n, c, h1, h2⟩, h3⟩
      refine ⟨⟨n, c, h1, ?_⟩, h3⟩
      rw [h2]
      unfold numL
      rw [byts_len, hz, b2']
      rfl
    | true =>
      have HE := Lib.hid (show numL (byts s) = false by unfold numL; rw [byts_len, hz]; simp)
      rw [Bool.and_eq_true] at hz
      have h1 := of_decide_eq_true hz.1
      have h0 : 0 < s.size := by omega
      have h0z : (0 : Int) < s.size := by omega
      have d1 : decide ((1 : Int) < s.size) = true := decide_eq_true (by omega)
      have b1 : (s.toList == []) = false := beq_eq_false_iff_ne.2 (by rw [Lib.toList_data]; exact hne)
      have hd : headB (byts s) = (s[0]'h0).toNat := by
        have h3 := byts_drop h0
        rw [List.drop_zero] at h3
        rw [h3]
        rfl
      have h48 := beq_iff_eq.1 hz.2
      rw [hd] at h48
      have b4 : (((s[0]'h0).toNat : Int) == 48) = true := beq_iff_eq.2 (by omega)
      clear hz hd h48 hne b2'
      go_enter Try.func74, Try.ntmps74
      go_wp2
      refine bodyPost_ret (v := .tuple #[.int .i64 0, .int .i64 20]) (by simp [results, Try.results74, go_sem]) rfl ⟨⟨_, _, rfl, ?_⟩, Below.refl _ _⟩
      rw [HE.out]; rfl

/-- Three cells somewhere. -/
structure PC (w : World) (b off : Nat) (y : C3) : Prop where
  lt : b < w.heap.size
  c0 : w.cell? ⟨b, off, none⟩ = some (.int .i8 y.k)
  c1 : w.cell? ⟨b, off + 1, none⟩ = some (.string y.t)
  c2 : w.cell? ⟨b, off + 2, none⟩ = some (.slice y.A y.n y.c)
theorem PC.keep {w w' : World} {b off : Nat} {y : C3} (h : PC w b off y) (hb : Below w.heap.size w w') : PC w' b off y :=
  ⟨Nat.lt_of_lt_of_le h.lt hb.size, (hb.cell (p := ⟨b, off, none⟩) h.lt).trans h.c0, (hb.cell (p := ⟨b, off + 1, none⟩) h.lt).trans h.c1, (hb.cell (p := ⟨b, off + 2, none⟩) h.lt).trans h.c2⟩

set_option maxRecDepth 100000 in
theorem sym_ok (w : World) (b off : Nat) (y : C3) (h : PC w b off y) (ht : y.t.size ≤ 1000000) :
    Calls Try.prog 48 #[.pointer (some ⟨b, off, none⟩)] w fun e w' => e = .returned (.bool (decide (y.n = 0) && mayL (byts y.t))) ∧ w = w' := by
  obtain ⟨k, t, A, n, c⟩ := y
  obtain ⟨hlt, x0, x1, x2⟩ := h
  dsimp only at x0 x1 x2 ht ⊢
  obtain ⟨mb, hmb⟩ : ∃ mb, mayL (byts t) = mb := ⟨_, rfl⟩
  have HM := Lib.hid (lexmay_ok t w (by omega))
  rw [hmb] at HM ⊢
  clear hmb
  by_cases hn : n = 0
  · subst hn
    go_enter Try.func48, Try.ntmps48
    go_wp2_with (go_at_call 73; refine HM.out.mono ?_; rintro e w1 ⟨rfl, rfl⟩)
    go_ret
    exact ⟨by cases mb <;> rfl, rfl⟩
  · have d1 : ((n : Int) == 0) = false := beq_eq_false_iff_ne.2 (by omega)
    rw [decide_eq_false hn]
    go_enter Try.func48, Try.ntmps48
    go_wp2
    go_ret
    exact ⟨rfl, rfl⟩

set_option maxRecDepth 100000 in
theorem num_ok (w : World) (b off : Nat) (y : C3) (h : PC w b off y) (ht : y.t.size ≤ 1000000) :
    Calls Try.prog 49 #[.pointer (some ⟨b, off, none⟩)] w fun e w' => e = .returned (.bool (decide (y.n = 0) && (numL (byts y.t) && decide ((byts y.t).length ≤ 100)))) ∧ Below w.heap.size w w' := by
  obtain ⟨k, t, A, n, c⟩ := y
  have h' := h
  obtain ⟨hlt, x0, x1, x2⟩ := h
  dsimp only at x0 x1 x2 ht ⊢
  rw [byts_len]
  obtain ⟨mb, hmb⟩ : ∃ mb, numL (byts t) = mb := ⟨_, rfl⟩
  have HM := Lib.hid (parse_ok t w (by omega))
  rw [hmb] at HM ⊢
  have HP := Lib.hid h'
  clear hmb h'
  have hdn : ((n : Int) == 0) = decide (n = 0) := by
    by_cases hn : n = 0
    · rw [hn]; rfl
    · rw [decide_eq_false hn]; exact beq_eq_false_iff_ne.2 (by omega)
  have hdt : decide ((t.size : Int) ≤ 100) = decide (t.size ≤ 100) := by
    by_cases hn : t.size ≤ 100
    · rw [decide_eq_true hn]; exact decide_eq_true (by omega)
    · rw [decide_eq_false hn]; exact decide_eq_false (by omega)
  obtain ⟨bn, hbn⟩ : ∃ bn, decide (n = 0) = bn := ⟨_, rfl⟩
  obtain ⟨bt, hbt⟩ : ∃ bt, decide (t.size ≤ 100) = bt := ⟨_, rfl⟩
  rw [hbn] at hdn ⊢
  rw [hbt] at hdt ⊢
  clear hbn hbt
  cases bn with
  | true =>
    cases mb with
    | true =>
      go_enter Try.func49, Try.ntmps49
      go_wp2_with (go_at_call 74; refine HM.out.mono ?_; rintro e w1 ⟨⟨nv, cv, rfl, hcv⟩, hb1⟩; have hcn : (cv != 20) = true := (by show (!(cv == 20)) = true; rw [hcv]; rfl); obtain ⟨_, x0, x1, x2⟩ := HP.out.keep hb1)
      go_ret
      exact ⟨by cases bt <;> rfl, hb1⟩
    | false =>
      go_enter Try.func49, Try.ntmps49
      go_wp2_with (go_at_call 74; refine HM.out.mono ?_; rintro e w1 ⟨⟨nv, cv, rfl, hcv⟩, hb1⟩; have hcn : (cv != 20) = false := (by show (!(cv == 20)) = false; rw [hcv]; rfl); obtain ⟨_, x0, x1, x2⟩ := HP.out.keep hb1)
      go_ret
      exact ⟨rfl, hb1⟩
  | false =>
    go_enter Try.func49, Try.ntmps49
    go_wp2_with (go_at_call 74; refine HM.out.mono ?_; rintro e w1 ⟨⟨nv, cv, rfl, hcv⟩, hb1⟩; obtain ⟨_, x0, x1, x2⟩ := HP.out.keep hb1)
    go_ret
    exact ⟨rfl, hb1⟩

/-- May a keyword's text be? -/
def kwL (t : List UInt8) : Bool := (t.all fun c => signN c.toNat) && (!t.isEmpty && decide (t.length ≤ 100))
set_option maxRecDepth 100000 in
theorem kw_ok (w : World) (b off : Nat) (y : C3) (h : PC w b off y) (ht : y.t.size ≤ 1000000) :
    Calls Try.prog 50 #[.pointer (some ⟨b, off, none⟩)] w fun e w' => e = .returned (.bool (decide (y.n = 0) && kwL (byts y.t))) ∧ Below w.heap.size w w' := by
  obtain ⟨k, t, A, n, c⟩ := y
  have h' := h
  obtain ⟨hlt, x0, x1, x2⟩ := h
  dsimp only at x0 x1 x2 ht ⊢
  unfold kwL
  rw [byts_len]
  obtain ⟨cap, W, hcv, hBy, hb⟩ := conv_at w t
  have hcn := Lib.hid (contb_ok t (by omega) W w.heap.size cap hBy)
  obtain ⟨mb, hmb⟩ : ∃ mb, ((byts t).all fun c => signN c.toNat) = mb := ⟨_, rfl⟩
  rw [hmb] at hcn ⊢
  have hdn : ((n : Int) == 0) = decide (n = 0) := by
    by_cases hn : n = 0
    · rw [hn]; rfl
    · rw [decide_eq_false hn]; exact beq_eq_false_iff_ne.2 (by omega)
  have hdt : decide ((t.size : Int) ≤ 100) = decide (t.size ≤ 100) := by
    by_cases hn : t.size ≤ 100
    · rw [decide_eq_true hn]; exact decide_eq_true (by omega)
    · rw [decide_eq_false hn]; exact decide_eq_false (by omega)
  have he1 : (t.toList != []) = !(byts t).isEmpty := by
    rw [Lib.toList_data]
    exact (fun l : List UInt8 => (by cases l <;> rfl : (l != []) = !l.isEmpty)) (byts t)
  have he2 : (!t.toList.isEmpty) = !(byts t).isEmpty := by rw [Lib.toList_data]
  obtain ⟨bn, hbn⟩ : ∃ bn, decide (n = 0) = bn := ⟨_, rfl⟩
  obtain ⟨bt, hbt⟩ : ∃ bt, decide (t.size ≤ 100) = bt := ⟨_, rfl⟩
  obtain ⟨be, hbe⟩ : ∃ be, (!(byts t).isEmpty) = be := ⟨_, rfl⟩
  rw [hbn] at hdn ⊢
  rw [hbt] at hdt ⊢
  rw [hbe] at he1 he2 ⊢
  have HB := Lib.hid hb
  obtain ⟨_, z0, z1, z2⟩ := h'.keep hb
  clear hbn hbt hbe hmb hBy hb h'
  dsimp only at z0 z1 z2
  cases bn with
  | true =>
    cases mb with
    | true =>
      cases be with
      | true =>
        go_enter Try.func50, Try.ntmps50
        go_wp2_with (go_at_call 75; refine hcn.out.mono ?_; rintro e w1 ⟨rfl, rfl⟩)
        go_ret
        exact ⟨by cases bt <;> rfl, HB.out⟩
      | false =>
        go_enter Try.func50, Try.ntmps50
        go_wp2_with (go_at_call 75; refine hcn.out.mono ?_; rintro e w1 ⟨rfl, rfl⟩)
        go_ret
        exact ⟨rfl, HB.out⟩
    | false =>
      go_enter Try.func50, Try.ntmps50
      go_wp2_with (go_at_call 75; refine hcn.out.mono ?_; rintro e w1 ⟨rfl, rfl⟩)
      go_ret
      exact ⟨rfl, HB.out⟩
  | false =>
    go_enter Try.func50, Try.ntmps50
    go_wp2_with (go_at_call 75; refine hcn.out.mono ?_; rintro e w1 ⟨rfl, rfl⟩)
    go_ret
    exact ⟨rfl, HB.out⟩
end Go.Proofs.Ytephhendkmhggaa

/- stands, May, Head. -/
namespace Go.Proofs.Ytephhendkmhggaa
open Go.RowKit

mutual
/-- May an expression be, but for its depth? -/
def Sx.stands : Sx → Bool
  | .mk k t l => if k = 0 then l.isEmpty && mayL t else if k = 1 then l.isEmpty && (numL t && decide (t.length ≤ 100)) else if k = 2 then l.isEmpty && kwL t else if k = 3 then t.isEmpty && Sx.standss l else false
def Sx.standss : List Sx → Bool
  | [] => true
  | x :: r => x.stands && Sx.standss r
end
mutual
/-- No text in it is too long to walk upon. -/
def Sx.fits : Sx → Prop
  | .mk _ t l => t.length ≤ 1000000 ∧ Sx.fitss l
def Sx.fitss : List Sx → Prop
  | [] => True
  | x :: r => x.fits ∧ Sx.fitss r
end
theorem fitss_mem : ∀ {l : List Sx} {y : Sx}, Sx.fitss l → y ∈ l → y.fits
  | x :: r, y, h, hy => by
    rw [Sx.fitss] at h
    rcases List.mem_cons.1 hy with rfl | hy
    · exact h.1
    · exact fitss_mem h.2 hy
theorem standss_drop (l : List Sx) (i : Nat) (h : i < l.length) : Sx.standss (l.drop i) = ((l[i]).stands && Sx.standss (l.drop (i + 1))) := by
  rw [List.drop_eq_getElem_cons h, Sx.standss]

def StandsAt (x : Sx) : Prop := ∀ (w : World) (b off : Nat) (y : C3), PC w b off y → Lies (fun _ => True) w y.val x → Calls Try.prog 33 #[.pointer (some ⟨b, off, none⟩)] w fun e w' => e = .returned (.bool x.stands) ∧ Below w.heap.size w w'

theorem list1_ok {x : Sx} (h : StandsAt x) (w : World) (y : C3) (hl : Lies (fun _ => True) w y.val x) : Calls Try.prog 79 #[y.val] w fun e w' => e = .returned (.bool (!x.stands)) ∧ Below w.heap.size w w' := by
  have hb : Below w.heap.size w (w.alloc (.cells #[.int .i8 y.k, .string y.t, .slice y.A y.n y.c] 26)) := (Below.refl _ w).alloc (Nat.le_refl _) _
  have hB := Blk.new w 26 #[.int .i8 y.k, .string y.t, .slice y.A y.n y.c]
  have hP : PC (w.alloc (.cells #[.int .i8 y.k, .string y.t, .slice y.A y.n y.c] 26)) w.heap.size 0 y := ⟨hB.lt, hB.cell 0, hB.cell 1, hB.cell 2⟩
  have HI := Lib.hid (h _ w.heap.size 0 y hP (hl.keep hb))
  have HB := Lib.hid hb
  obtain ⟨bs, hbs⟩ : ∃ bs, x.stands = bs := ⟨_, rfl⟩
  rw [hbs] at HI ⊢
  clear hb hB hP h hl hbs
  unfold C3.val
  go_enter Try.func79, Try.ntmps79
  go_wp2_with (go_at_call 33; refine HI.out.mono ?_; rintro e w1 ⟨rfl, hb1⟩)
  go_ret
  exact ⟨rfl, HB.out.trans (hb1.mono HB.out.size)⟩

set_option maxHeartbeats 1000000 in
set_option maxRecDepth 100000 in
theorem idxs_ok (l : List Sx) (hl : l.length ≤ 9223372036854775807) (ih : ∀ y ∈ l, StandsAt y) (w : World) (A : Option Addr) (c : Nat) (hc : l.length ≤ c) (hA : Kids (fun _ => True) w A l) :
    Calls Try.prog 94 #[.slice A l.length c, .func (.func 79) #[] #[]] w fun e w' => (∃ r : Int, e = .returned (.int .i64 r) ∧ decide (r ≥ 0) = !Sx.standss l) ∧ Below w.heap.size w w' := by
  have HI := Lib.hid ih
  have HA := Lib.hid hA
  clear ih hA
  go_enter Try.func94, Try.ntmps94
  go_wp2
  go_loopg [8] l.length (fun g v wx => Below w.heap.size w wx ∧ ∃ i : Nat, i + g = l.length ∧ v = .int .i64 i ∧ Sx.standss (l.drop i) = Sx.standss l)
  case atStart => exact ⟨Below.refl _ _, 0, by omega, rfl, rfl⟩
  case round =>
    obtain ⟨hB, i, hig, rfl, hinv⟩ := hrel
    have HV := Lib.hid hinv
    clear hinv
    cases gk with
    | zero =>
      have d1 : decide ((i : Int) < l.length) = false := decide_eq_false (by omega)
      have HE := Lib.hid (show Sx.standss l = true by rw [← HV.out, List.drop_eq_nil_of_le (by omega), Sx.standss])
      go_wp2
      go_ret
      refine ⟨⟨_, rfl, ?_⟩, hB⟩
      rw [HE.out]
      rfl
    | succ g =>
      have hiz : (i : Int) < (l.length : Int) := by omega
      have hin : i < l.length := by omega
      have d1 : decide ((i : Int) < l.length) = true := decide_eq_true hiz
      obtain ⟨b, off, k1, t1, B1, n1, m1, rfl, _, hlt, x0, x1, x2, hy⟩ := (HA.out.keep hB) i hin
      have HL := Lib.hid (list1_ok (HI.out (l[i]) (List.getElem_mem hin)) wr ⟨k1, t1, B1, n1, m1⟩ hy)
      have HD := Lib.hid (standss_drop l i hin)
      clear hy HA HI
      obtain ⟨bs, hbs⟩ : ∃ bs, (l[i]).stands = bs := ⟨_, rfl⟩
      rw [hbs] at HL HD
      clear hbs
      cases bs with
      | true =>
        go_wp2_with (go_at_call 79; refine HL.out.mono ?_; rintro e w1 ⟨rfl, hb1⟩)
        go_roundg g
        case measure => omega
        case rel => exact ⟨hB.trans (hb1.mono hB.size), i + 1, by omega, by go_num, by rw [← HV.out, HD.out, Bool.true_and]⟩
      | false =>
        have HE := Lib.hid (show Sx.standss l = false by rw [← HV.out, HD.out, Bool.false_and])
        go_wp2_with (go_at_call 79; refine HL.out.mono ?_; rintro e w1 ⟨rfl, hb1⟩)
        go_ret
        refine ⟨⟨_, rfl, ?_⟩, hB.trans (hb1.mono hB.size)⟩
        rw [HE.out]
        exact decide_eq_true (by omega)
theorem conts_ok (l : List Sx) (hl : l.length ≤ 9223372036854775807) (ih : ∀ y ∈ l, StandsAt y) (w : World) (A : Option Addr) (c : Nat) (hc : l.length ≤ c) (hA : Kids (fun _ => True) w A l) :
    Calls Try.prog 78 #[.slice A l.length c, .func (.func 79) #[] #[]] w fun e w' => e = .returned (.bool (!Sx.standss l)) ∧ Below w.heap.size w w' := by
  obtain ⟨bb, hbb⟩ : ∃ bb, (!Sx.standss l) = bb := ⟨_, rfl⟩
  have HI := Lib.hid (idxs_ok l hl ih w A c hc hA)
  rw [hbb] at HI ⊢
  clear hbb ih hA
  go_enter Try.func78, Try.ntmps78
  go_wp2_with (go_at_call 94; refine HI.out.mono ?_; rintro e w1 ⟨⟨r, rfl, hr⟩, hb1⟩)
  go_ret
  exact ⟨by first | rfl | rw [← hr], hb1⟩

theorem list_ok (l : List Sx) (hl : l.length ≤ 9223372036854775807) (ih : ∀ y ∈ l, StandsAt y) (w : World) (b off : Nat) (k : Int) (t : ByteArray) (A : Option Addr) (c : Nat) (hp : PC w b off ⟨k, t, A, l.length, c⟩) (hc : l.length ≤ c) (hA : Kids (fun _ => True) w A l) :
    Calls Try.prog 51 #[.pointer (some ⟨b, off, none⟩)] w fun e w' => e = .returned (.bool ((byts t).isEmpty && Sx.standss l)) ∧ Below w.heap.size w w' := by
  have HI := Lib.hid (conts_ok l hl ih w A c hc hA)
  obtain ⟨bb, hbb⟩ : ∃ bb, Sx.standss l = bb := ⟨_, rfl⟩
  rw [hbb] at HI ⊢
  obtain ⟨_, x0, x1, x2⟩ := hp
  dsimp only at x0 x1 x2
  have he1 : (t.toList == []) = (byts t).isEmpty := by
    rw [Lib.toList_data]
    exact (fun l : List UInt8 => (by cases l <;> rfl : (l == []) = l.isEmpty)) (byts t)
  have he2 : t.toList.isEmpty = (byts t).isEmpty := by rw [Lib.toList_data]
  obtain ⟨be, hbe⟩ : ∃ be, (byts t).isEmpty = be := ⟨_, rfl⟩
  rw [hbe] at he1 he2 ⊢
  clear hbe hbb ih hA
  cases be with
  | true =>
    go_enter Try.func51, Try.ntmps51
    go_wp2_with (go_at_call 78; refine HI.out.mono ?_; rintro e w1 ⟨rfl, hb1⟩)
    go_ret
    exact ⟨by cases bb <;> rfl, hb1⟩
  | false =>
    go_enter Try.func51, Try.ntmps51
    go_wp2
    go_ret
    exact ⟨rfl, Below.refl _ _⟩

theorem kids_dec (l : List Sx) : decide (l.length = 0) = l.isEmpty := by cases l <;> rfl
set_option maxRecDepth 100000 in
theorem stands_at (x : Sx) : x.fits → StandsAt x := by
  induction x using Sx.ind with
  | h k T l ih =>
  intro hf w b off y hp hl
  rw [Sx.fits] at hf
  obtain ⟨t, A, c, hv, rfl, hlc, _, hmax, hk⟩ := hl.open_
  have hy : y = ⟨k, t, A, l.length, c⟩ := by
    obtain ⟨k2, t2, A2, n2, c2⟩ := y
    unfold C3.val at hv
    injection hv with e
    injection e with e
    injection e with e0 e
    injection e with e1 e
    injection e with e2 e
    injection e0 with _ e0
    injection e1 with e1
    injection e2 with a1 a2 a3
    subst e0 e1 a1 a2 a3
    rfl
  subst hy
  have hts : t.size ≤ 1000000 := by rw [← byts_len]; exact hf.1
  have hih : ∀ z ∈ l, StandsAt z := fun z hz => ih z hz (fitss_mem hf.2 hz)
  have hS : (Sx.mk k (byts t) l).stands = if k = 0 then l.isEmpty && mayL (byts t) else if k = 1 then l.isEmpty && (numL (byts t) && decide ((byts t).length ≤ 100)) else if k = 2 then l.isEmpty && kwL (byts t) else if k = 3 then (byts t).isEmpty && Sx.standss l else false := by rw [Sx.stands]
  rw [hS]
  have hsy := sym_ok w b off _ hp hts
  have hnu := num_ok w b off _ hp hts
  have hkw := kw_ok w b off _ hp hts
  have hli := list_ok l hmax hih w b off k t A c hp hlc hk
  dsimp only at hsy hnu hkw
  rw [kids_dec] at hsy hnu hkw
  obtain ⟨_, x0, x1, x2⟩ := hp
  dsimp only at x0 x1 x2
  have HS := Lib.hid hsy
  have HN := Lib.hid hnu
  have HK := Lib.hid hkw
  have HL := Lib.hid hli
  clear hsy hnu hkw hli hih ih hf hl hv hS hk
  by_cases h0 : k = 0
  · subst h0
    rw [if_pos rfl]
    go_enter Try.func33, Try.ntmps33
    go_wp2_with (go_at_call 48; refine HS.out.mono ?_; rintro e w1 ⟨rfl, rfl⟩)
    go_ret
    exact ⟨rfl, Below.refl _ _⟩
  rw [if_neg h0]
  by_cases h1 : k = 1
  · subst h1
    rw [if_pos rfl]
    clear h0
    go_enter Try.func33, Try.ntmps33
    go_wp2_with (go_at_call 49; refine HN.out.mono ?_; rintro e w1 ⟨rfl, hb1⟩)
    go_ret
    exact ⟨rfl, hb1⟩
  rw [if_neg h1]
  by_cases h2 : k = 2
  · subst h2
    rw [if_pos rfl]
    clear h0 h1
    go_enter Try.func33, Try.ntmps33
    go_wp2_with (go_at_call 50; refine HK.out.mono ?_; rintro e w1 ⟨rfl, hb1⟩)
    go_ret
    exact ⟨rfl, hb1⟩
  rw [if_neg h2]
  by_cases h3 : k = 3
  · subst h3
    rw [if_pos rfl]
    clear h0 h1 h2
    obtain ⟨be, hbe⟩ : ∃ be, ((byts t).isEmpty && Sx.standss l) = be := ⟨_, rfl⟩
    rw [hbe] at HL ⊢
    clear hbe
    go_enter Try.func33, Try.ntmps33
    go_wp2_with (go_at_call 51; refine HL.out.mono ?_; rintro e w1 ⟨rfl, hb1⟩)
    go_ret
    exact ⟨rfl, hb1⟩
  rw [if_neg h3]
  have b0 : (k == 0) = false := beq_eq_false_iff_ne.2 h0
  have b1 : (k == 1) = false := beq_eq_false_iff_ne.2 h1
  have b2 : (k == 2) = false := beq_eq_false_iff_ne.2 h2
  have b3 : (k == 3) = false := beq_eq_false_iff_ne.2 h3
  clear h0 h1 h2 h3
  go_enter Try.func33, Try.ntmps33
  go_wp2
  go_ret
  exact ⟨rfl, Below.refl _ _⟩

/-- May an expression be? -/
def Sx.may (x : Sx) : Bool := decide (x.depth ≤ 60) && x.stands
set_option maxRecDepth 100000 in
theorem may_ok (x : Sx) (hf : x.fits) (hd : x.depth < 9223372036854775807) (w : World) (v : Value) (hl : Lies (fun _ => True) w v x) :
    Calls Try.prog 17 #[v] w fun e w' => e = .returned (.bool x.may) ∧ Below w.heap.size w w' := by
  obtain ⟨y, rfl⟩ := hl.c3
  obtain ⟨W, hW⟩ : ∃ W, w.alloc (.cells #[.int .i8 y.k, .string y.t, .slice y.A y.n y.c] 26) = W := ⟨_, rfl⟩
  have hb : Below w.heap.size w W := hW ▸ (Below.refl _ w).alloc (Nat.le_refl _) _
  have hB : Blk W w.heap.size 26 #[.int .i8 y.k, .string y.t, .slice y.A y.n y.c] := hW ▸ Blk.new w _ _
  have hP : PC W w.heap.size 0 y := ⟨hB.lt, hB.cell 0, hB.cell 1, hB.cell 2⟩
  have HD := Lib.hid (depth_ok x hd _ W (hl.keep hb))
  have HS := Lib.hid (fun w1 (h1 : Below W.heap.size W w1) => stands_at x hf w1 w.heap.size 0 y (hP.keep h1) ((hl.keep hb).keep h1))
  unfold Sx.may
  obtain ⟨dx, hdx⟩ : ∃ dx, x.depth = dx := ⟨_, rfl⟩
  obtain ⟨bs, hbs⟩ : ∃ bs, x.stands = bs := ⟨_, rfl⟩
  rw [hdx] at HD ⊢
  rw [hbs] at HS ⊢
  have HB := Lib.hid hb
  obtain ⟨_, x0, x1, x2⟩ := hP
  clear hdx hbs hl hb hB hf hd
  unfold C3.val at HD ⊢
  subst hW
  by_cases h : dx ≤ 60
  · have d1 : decide ((dx : Int) ≤ 60) = true := decide_eq_true (by omega)
    rw [decide_eq_true h]
    go_enter Try.func17, Try.ntmps17
    go_wp2_with (first
      | (go_at_call 19; refine HD.out.mono ?_; rintro e w1 ⟨rfl, hb1⟩)
      | (go_at_call 33; refine (HS.out _ hb1).mono ?_; rintro e w2 ⟨rfl, hb2⟩))
    go_ret
    exact ⟨by cases bs <;> rfl, (HB.out.trans (hb1.mono HB.out.size)).trans (hb2.mono (Nat.le_trans HB.out.size hb1.size))⟩
  · have d1 : decide ((dx : Int) ≤ 60) = false := decide_eq_false (by omega)
    rw [decide_eq_false h]
    go_enter Try.func17, Try.ntmps17
    go_wp2_with (first
      | (go_at_call 19; refine HD.out.mono ?_; rintro e w1 ⟨rfl, hb1⟩))
    go_ret
    exact ⟨rfl, HB.out.trans (hb1.mono HB.out.size)⟩

/-- An expression's head. -/
def Sx.head : Sx → List UInt8
  | .mk k _ l => if k = 3 then match l with
    | .mk 0 t _ :: _ => t
    | _ => []
    else []
set_option maxRecDepth 100000 in
theorem head_ok (k : Int) (T : List UInt8) (l : List Sx) (h3 : k = 3) (hne : 0 < l.length) (t0 : List UInt8) (l0 : List Sx) (hl0 : l[0]'hne = .mk 0 t0 l0) (w : World) (v : Value) (hl : Lies (fun _ => True) w v (.mk k T l)) :
    Calls Try.prog 22 #[v] w fun e w' => (∃ s, e = .returned (.string s) ∧ byts s = t0) ∧ Below w.heap.size w w' := by
  subst h3
  obtain ⟨t, A, c, rfl, rfl, hlc, _, hmax, hk⟩ := hl.open_
  have hb : Below w.heap.size w (w.alloc (.cells #[.int .i8 3, .string t, .slice A l.length c] 26)) := (Below.refl _ w).alloc (Nat.le_refl _) _
  obtain ⟨b, off, k1, t1, B1, n1, m1, rfl, _, hlt, x0, x1, x2, hy⟩ := (hk.keep hb) 0 hne
  rw [hl0] at hy
  obtain ⟨t2, A2, c2, hv, ht2, _⟩ := hy.open_
  injection hv with e
  injection e with e
  injection e with e0 e
  injection e with e1 e
  injection e0 with _ e0
  injection e1 with e1
  subst e0 e1
  have d0 : ((l.length : Int) == 0) = false := beq_eq_false_iff_ne.2 (by omega)
  have d1 : (0 : Int) < l.length := by omega
  rw [Nat.zero_mul, Nat.add_zero] at x0 x1 x2
  have HB := Lib.hid hb
  clear hy hk hl hb hl0
  go_enter Try.func22, Try.ntmps22
  go_wp2
  go_ret
  exact ⟨⟨_, rfl, ht2⟩, HB.out⟩
end Go.Proofs.Ytephhendkmhggaa

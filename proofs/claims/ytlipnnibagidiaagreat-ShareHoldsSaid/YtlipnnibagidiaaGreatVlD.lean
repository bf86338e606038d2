/- Loosely: whether a name is free, whether a function may be. -/
import Derived.Test.YtlipnnibagidiaaGreatRowA
namespace Go.Proofs.YtlipnnibagidiaaGreat
open Go.RowKit Go.Lib
def SomeB (w : World) (e : Ending) (w' : World) : Prop := (∃ b, e = .returned (.bool b)) ∧ w = w'
def SomeBB (w : World) (e : Ending) (w' : World) : Prop := (∃ b, e = .returned (.bool b)) ∧ Below w.heap.size w w'
theorem SomeB.mk_ (b : Bool) (w : World) : SomeB w (.returned (.bool b)) w := ⟨⟨b, rfl⟩, rfl⟩
theorem SomeBB.mk_ {w w' : World} (b : Bool) (h : Below w.heap.size w w') : SomeBB w (.returned (.bool b)) w' := ⟨⟨b, rfl⟩, h⟩
theorem lwhite_ok (n : Int) (w : World) : Calls Tryz.prog 198 #[.int .u8 n] w (SomeB w) := by
  go_enter Tryz.func198, Tryz.ntmps198
  go_wp2_with fail
  all_goals (go_ret; exact SomeB.mk_ _ _)
theorem lwithin_ok (n : Int) (w : World) : Calls Tryz.prog 179 #[.int .u8 n] w (SomeB w) := by
  go_enter Tryz.func179, Tryz.ntmps179
  go_wp2_with (go_at_call 198; refine (lwhite_ok n _).mono ?_; rintro e w1 ⟨⟨b, rfl⟩, rfl⟩)
  all_goals (go_ret; exact SomeB.mk_ _ _)
theorem lsign_ok (n : Int) (w : World) : Calls Tryz.prog 209 #[.int .u8 n] w (SomeB w) := by
  have hx : ∀ i (hi : i < 17), ∃ x : UInt8, (({ data := #[126, 33, 64, 36, 37, 94, 38, 42, 95, 45, 43, 61, 60, 62, 46, 63, 47] } : ByteArray)[i]'hi) = x := fun i hi => ⟨_, rfl⟩
  have HX := zzh hx
  clear hx
  go_enter Tryz.func209, Tryz.ntmps209
  go_upto_region 4 with fail
  all_goals try (go_ret; exact SomeB.mk_ _ _)
  all_goals
    go_loopg [3] 17 (fun g v wx => w = wx ∧ ∃ i : Nat, i + g = 17 ∧ v = .int .i64 i)
    case atStart => exact ⟨rfl, 0, by omega, rfl⟩
    case round =>
      obtain ⟨rfl, i, hig, rfl⟩ := hrel
      cases gk with
      | zero =>
        obtain rfl : i = 17 := by omega
        go_wp2
        go_ret
        exact SomeB.mk_ _ _
      | succ k =>
        have hi : i < 17 := by omega
        have t1 : (0 : Int) ≤ (i : Int) := by omega
        have t2 : (i : Int) < 17 := by omega
        have d1 : decide ((i : Int) < 17) = true := decide_eq_true t2
        obtain ⟨x, hx⟩ := HX.out i hi
        by_cases hp : (x.toNat : Int) = n
        · have b1 : ((x.toNat : Int) == n) = true := beq_iff_eq.2 hp
          clear hp
          go_wp2
          go_ret
          exact SomeB.mk_ _ _
        · have b1 : ((x.toNat : Int) == n) = false := beq_eq_false_iff_ne.2 hp
          clear hp
          go_wp2
          go_roundg k
          case measure => omega
          case rel => exact ⟨rfl, i + 1, by omega, by go_num⟩
set_option maxHeartbeats 1000000 in
theorem lname_ok (s : ByteArray) (w : World) : Calls Tryz.prog 164 #[.string s] w (SomeB w) := by
  by_cases h : s.size ≤ 100
  · have d0 : decide ((s.size : Int) > 100) = false := decide_eq_false (by omega)
    have d0' : decide ((100 : Int) < s.size) = false := d0
    go_enter Tryz.func164, Tryz.ntmps164
    go_wp2
    go_loopg [3] s.size (fun g v wx => w = wx ∧ ∃ i : Nat, i + g = s.size ∧ v = .int .i64 i)
    case atStart => exact ⟨rfl, 0, by omega, rfl⟩
    case round =>
      obtain ⟨rfl, i, hig, rfl⟩ := hrel
      cases gk with
      | zero =>
        have d1 : decide ((i : Int) < s.size) = false := by simp; omega
        go_wp2
        go_ret
        exact SomeB.mk_ _ _
      | succ g =>
        have hiz : (i : Int) < (s.size : Int) := by omega
        have hin : i < s.size := by omega
        have d1 : decide ((i : Int) < s.size) = true := decide_eq_true hiz
        obtain ⟨x, hx⟩ : ∃ x : UInt8, s[i]'(by omega) = x := ⟨_, rfl⟩
        go_wp2_with (go_at_call 179; refine (lwithin_ok _ _).mono ?_; rintro e w1 ⟨⟨b, rfl⟩, rfl⟩; cases b)
        · go_ret
          exact SomeB.mk_ _ _
        · go_roundg g
          case measure => omega
          case rel => exact ⟨rfl, i + 1, by omega, by go_num⟩
  · have d0 : decide ((s.size : Int) > 100) = true := decide_eq_true (by omega)
    have d0' : decide ((100 : Int) < s.size) = true := d0
    go_enter Tryz.func164, Tryz.ntmps164
    go_wp2
    go_ret
    exact SomeB.mk_ _ _
set_option maxHeartbeats 1000000 in
theorem lkey_ok (s : ByteArray) (w : World) : Calls Tryz.prog 200 #[.string s] w (SomeB w) := by
  obtain ⟨q, hq⟩ : ∃ q, s.toList.isEmpty = q := ⟨_, rfl⟩
  cases q with
  | true =>
    have b1 : (s.toList == []) = true := beq_iff_eq.2 (List.isEmpty_iff.1 hq)
    go_enter Tryz.func200, Tryz.ntmps200
    go_wp2
    go_ret
    exact SomeB.mk_ _ _
  | false =>
  have b1 : (s.toList == []) = false := beq_eq_false_iff_ne.2 (List.isEmpty_eq_false_iff.1 hq)
  by_cases h : s.size ≤ 100
  · have d0 : decide ((s.size : Int) > 100) = false := decide_eq_false (by omega)
    have d0' : decide ((100 : Int) < s.size) = false := d0
    go_enter Tryz.func200, Tryz.ntmps200
    go_wp2
    go_loopg [3] s.size (fun g v wx => w = wx ∧ ∃ i : Nat, i + g = s.size ∧ v = .int .i64 i)
    case atStart => exact ⟨rfl, 0, by omega, rfl⟩
    case round =>
      obtain ⟨rfl, i, hig, rfl⟩ := hrel
      cases gk with
      | zero =>
        have d1 : decide ((i : Int) < s.size) = false := by simp; omega
        go_wp2
        go_ret
        exact SomeB.mk_ _ _
      | succ g =>
        have hiz : (i : Int) < (s.size : Int) := by omega
        have hin : i < s.size := by omega
        have d1 : decide ((i : Int) < s.size) = true := decide_eq_true hiz
        obtain ⟨x, hx⟩ : ∃ x : UInt8, s[i]'(by omega) = x := ⟨_, rfl⟩
        go_wp2_with (go_at_call 209; refine (lsign_ok _ _).mono ?_; rintro e w1 ⟨⟨b, rfl⟩, rfl⟩; cases b)
        · go_ret
          exact SomeB.mk_ _ _
        · go_roundg g
          case measure => omega
          case rel => exact ⟨rfl, i + 1, by omega, by go_num⟩
  · have d0 : decide ((s.size : Int) > 100) = true := decide_eq_true (by omega)
    have d0' : decide ((100 : Int) < s.size) = true := d0
    go_enter Tryz.func200, Tryz.ntmps200
    go_wp2
    go_ret
    exact SomeB.mk_ _ _
theorem lreserved_ok (s : ByteArray) (w : World) : Calls Tryz.prog 165 #[.string s] w (SomeB w) := by
  go_enter Tryz.func165, Tryz.ntmps165
  go_wp2_with fail
  all_goals (go_ret; exact SomeB.mk_ _ _)
theorem lcore_ok (s : ByteArray) (w : World) : Calls Tryz.prog 169 #[.string s] w (SomeB w) := by
  go_enter Tryz.func169, Tryz.ntmps169
  go_wp2_with fail
  all_goals (go_ret; exact SomeB.mk_ _ _)
def SomeN (w : World) (e : Ending) (w' : World) : Prop := (∃ n c, e = .returned (.tuple #[.int .i64 n, .int .i64 c])) ∧ w = w'
theorem SomeN.mk_ (n c : Int) (w : World) : SomeN w (.returned (.tuple #[.int .i64 n, .int .i64 c])) w := ⟨⟨n, c, rfl⟩, rfl⟩
set_option maxHeartbeats 2000000 in
theorem lparse_ok (s : ByteArray) (w : World) (hs : s.size ≤ 9223372036854775807) : Calls Tryz.prog 199 #[.string s] w (SomeN w) := by
  obtain ⟨q, hq⟩ : ∃ q, s.toList.isEmpty = q := ⟨_, rfl⟩
  cases q with
  | true =>
    have b1 : (s.toList == []) = true := beq_iff_eq.2 (List.isEmpty_iff.1 hq)
    go_enter Tryz.func199, Tryz.ntmps199
    go_wp2
    refine bodyPost_ret (v := .tuple #[.int .i64 0, .int .i64 20]) (by simp [results, Tryz.results199, go_sem]) rfl (SomeN.mk_ _ _ _)
  | false =>
  have b1 : (s.toList == []) = false := beq_eq_false_iff_ne.2 (List.isEmpty_eq_false_iff.1 hq)
  have h0 : 0 < s.size := by
    rcases Nat.eq_zero_or_pos s.size with h | h
    · have e : s.toList = [] := by rw [ByteArray.toList_eq]; exact List.eq_nil_of_length_eq_zero h
      rw [e] at hq
      cases hq
    · exact h
  have h0z : (0 : Int) < s.size := by omega
  obtain ⟨z, hz⟩ : ∃ z : UInt8, s[0]'h0 = z := ⟨_, rfl⟩
  by_cases h48 : (z.toNat : Int) = 48
  · have e4 : ((z.toNat : Int) == 48) = true := beq_iff_eq.2 h48
    by_cases h1 : (1 : Int) < s.size
    · have d5 : decide ((1 : Int) < s.size) = true := decide_eq_true h1
      have d6 : decide ((s.size : Int) > 1) = true := decide_eq_true h1
      clear h48
      go_enter Tryz.func199, Tryz.ntmps199
      go_wp2
      refine bodyPost_ret (v := .tuple #[.int .i64 0, .int .i64 20]) (by simp [results, Tryz.results199, go_sem]) rfl (SomeN.mk_ _ _ _)
    · have d5 : decide ((1 : Int) < s.size) = false := decide_eq_false h1
      have d6 : decide ((s.size : Int) > 1) = false := decide_eq_false h1
      clear h48
      go_enter Tryz.func199, Tryz.ntmps199
      go_wp2
      go_loopg [4] s.size (fun g v wx => w = wx ∧ ∃ i : Nat, i + g = s.size ∧ v = .int .i64 i)
      case atStart => exact ⟨rfl, 0, by omega, rfl⟩
      case round =>
        obtain ⟨rfl, i, hig, rfl⟩ := hrel
        cases gk with
        | succ g =>
          have hiz : (i : Int) < (s.size : Int) := by omega
          have hin : i < s.size := by omega
          have d1 : decide ((i : Int) < s.size) = true := decide_eq_true hiz
          obtain ⟨x, hx⟩ : ∃ x : UInt8, s[i]'hin = x := ⟨_, rfl⟩
          by_cases h48 : (x.toNat : Int) < 48
          · have e1 : decide ((x.toNat : Int) < 48) = true := decide_eq_true h48
            clear h48
            go_wp2
            refine bodyPost_ret (v := .tuple #[.int .i64 0, .int .i64 20]) (by simp [results, Tryz.results199, go_sem]) rfl (SomeN.mk_ _ _ _)
          · have e1 : decide ((x.toNat : Int) < 48) = false := decide_eq_false h48
            by_cases h57 : (x.toNat : Int) > 57
            · have e2 : decide ((x.toNat : Int) > 57) = true := decide_eq_true h57
              have e3 : decide ((57 : Int) < (x.toNat : Int)) = true := decide_eq_true h57
              clear h48 h57
              go_wp2
              refine bodyPost_ret (v := .tuple #[.int .i64 0, .int .i64 20]) (by simp [results, Tryz.results199, go_sem]) rfl (SomeN.mk_ _ _ _)
            · have e2 : decide ((x.toNat : Int) > 57) = false := decide_eq_false h57
              have e3 : decide ((57 : Int) < (x.toNat : Int)) = false := decide_eq_false h57
              clear h48 h57
              go_wp2
              go_roundg g
              case measure => omega
              case rel => exact ⟨rfl, i + 1, by omega, by go_num⟩
        | zero =>
          have d1 : decide ((i : Int) < s.size) = false := by simp; omega
          go_wp2
          go_loopw [6, 5] (fun v d wx => w = wx ∧ ∃ (j : Nat) (n : Int), v = .int .i64 j ∧ d = .int .i64 n ∧ j ≤ s.size) (fun v _ _ => (s.size - intOf v).toNat)
          case atStart => exact ⟨rfl, 0, 0, rfl, rfl, by omega⟩
          case round =>
            obtain ⟨rfl, j, n, rfl, rfl, hj⟩ := hrel
            by_cases hjs : j < s.size
            · have hjz : (j : Int) < (s.size : Int) := by omega
              have d2 : decide ((j : Int) < s.size) = true := decide_eq_true hjz
              obtain ⟨x, hx⟩ : ∃ x : UInt8, s[j]'hjs = x := ⟨_, rfl⟩
              go_wp2_with fail
              · refine bodyPost_ret (v := .tuple #[.int .i64 0, .int .i64 10]) (by simp [results, Tryz.results199, go_sem]) rfl (SomeN.mk_ _ _ _)
              · go_roundw
                case measure => simp only [intOf]; omega
                case rel => exact ⟨trivial, j + 1, _, by go_num, rfl, by omega⟩
            · have d2 : decide ((j : Int) < s.size) = false := decide_eq_false (by omega)
              go_wp2
              refine bodyPost_ret (v := .tuple #[.int .i64 n, .int .i64 0]) (by simp [results, Tryz.results199, go_sem]) rfl (SomeN.mk_ _ _ _)
  · have e4 : ((z.toNat : Int) == 48) = false := beq_eq_false_iff_ne.2 h48
    clear h48
    go_enter Tryz.func199, Tryz.ntmps199
    go_wp2
    go_loopg [4] s.size (fun g v wx => w = wx ∧ ∃ i : Nat, i + g = s.size ∧ v = .int .i64 i)
    case atStart => exact ⟨rfl, 0, by omega, rfl⟩
    case round =>
      obtain ⟨rfl, i, hig, rfl⟩ := hrel
      cases gk with
      | succ g =>
        have hiz : (i : Int) < (s.size : Int) := by omega
        have hin : i < s.size := by omega
        have d1 : decide ((i : Int) < s.size) = true := decide_eq_true hiz
        obtain ⟨x, hx⟩ : ∃ x : UInt8, s[i]'hin = x := ⟨_, rfl⟩
        by_cases h48 : (x.toNat : Int) < 48
        · have e1 : decide ((x.toNat : Int) < 48) = true := decide_eq_true h48
          clear h48
          go_wp2
          refine bodyPost_ret (v := .tuple #[.int .i64 0, .int .i64 20]) (by simp [results, Tryz.results199, go_sem]) rfl (SomeN.mk_ _ _ _)
        · have e1 : decide ((x.toNat : Int) < 48) = false := decide_eq_false h48
          by_cases h57 : (x.toNat : Int) > 57
          · have e2 : decide ((x.toNat : Int) > 57) = true := decide_eq_true h57
            have e3 : decide ((57 : Int) < (x.toNat : Int)) = true := decide_eq_true h57
            clear h48 h57
            go_wp2
            refine bodyPost_ret (v := .tuple #[.int .i64 0, .int .i64 20]) (by simp [results, Tryz.results199, go_sem]) rfl (SomeN.mk_ _ _ _)
          · have e2 : decide ((x.toNat : Int) > 57) = false := decide_eq_false h57
            have e3 : decide ((57 : Int) < (x.toNat : Int)) = false := decide_eq_false h57
            clear h48 h57
            go_wp2
            go_roundg g
            case measure => omega
            case rel => exact ⟨rfl, i + 1, by omega, by go_num⟩
      | zero =>
        have d1 : decide ((i : Int) < s.size) = false := by simp; omega
        go_wp2
        go_loopw [6, 5] (fun v d wx => w = wx ∧ ∃ (j : Nat) (n : Int), v = .int .i64 j ∧ d = .int .i64 n ∧ j ≤ s.size) (fun v _ _ => (s.size - intOf v).toNat)
        case atStart => exact ⟨rfl, 0, 0, rfl, rfl, by omega⟩
        case round =>
          obtain ⟨rfl, j, n, rfl, rfl, hj⟩ := hrel
          by_cases hjs : j < s.size
          · have hjz : (j : Int) < (s.size : Int) := by omega
            have d2 : decide ((j : Int) < s.size) = true := decide_eq_true hjz
            obtain ⟨x, hx⟩ : ∃ x : UInt8, s[j]'hjs = x := ⟨_, rfl⟩
            go_wp2_with fail
            · refine bodyPost_ret (v := .tuple #[.int .i64 0, .int .i64 10]) (by simp [results, Tryz.results199, go_sem]) rfl (SomeN.mk_ _ _ _)
            · go_roundw
              case measure => simp only [intOf]; omega
              case rel => exact ⟨trivial, j + 1, _, by go_num, rfl, by omega⟩
          · have d2 : decide ((j : Int) < s.size) = false := decide_eq_false (by omega)
            go_wp2
            refine bodyPost_ret (v := .tuple #[.int .i64 n, .int .i64 0]) (by simp [results, Tryz.results199, go_sem]) rfl (SomeN.mk_ _ _ _)
def I64 (x : Int) : Prop := -9223372036854775808 ≤ x ∧ x ≤ 9223372036854775807
structure FnM where
  nm : ByteArray
  len : Int
  a0 : Int
  a1 : Int
  a2 : Int
  res : Int
instance : Inhabited FnM := ⟨⟨ByteArray.empty, 0, 0, 0, 0, 0⟩⟩
def FnM.cells (f : FnM) : List Value := [.string f.nm, .int .i64 f.len, .int .i64 f.a0, .int .i64 f.a1, .int .i64 f.a2, .int .i64 f.res]
structure FnM.Wf (f : FnM) : Prop where
  len : I64 f.len
  a0 : I64 f.a0
  a1 : I64 f.a1
  a2 : I64 f.a2
  res : I64 f.res
structure FnAt (w : World) (b o : Nat) (f : FnM) : Prop where
  c0 : w.cell? ⟨b, o, none⟩ = some (.string f.nm)
  c1 : w.cell? ⟨b, o + 1, none⟩ = some (.int .i64 f.len)
  c2 : w.cell? ⟨b, o + 2, none⟩ = some (.int .i64 f.a0)
  c3 : w.cell? ⟨b, o + 3, none⟩ = some (.int .i64 f.a1)
  c4 : w.cell? ⟨b, o + 4, none⟩ = some (.int .i64 f.a2)
  c5 : w.cell? ⟨b, o + 5, none⟩ = some (.int .i64 f.res)
  wf : f.Wf
structure X3 where
  k : Int
  t : ByteArray
  A : Option Addr
  n : Nat
  c : Nat
inductive SxL (w : World) : X3 → Prop
  | mk (y : X3) (b off : Nat) (f : Nat → X3) (ht : y.t.size ≤ 9223372036854775807) (hn : y.n ≤ 9223372036854775807) (hA : 0 < y.n → y.A = some ⟨b, off, none⟩ ∧ b < w.heap.size)
      (hc : ∀ i, i < y.n → w.cell? ⟨b, off + i * 3, none⟩ = some (.int .i8 (f i).k) ∧ w.cell? ⟨b, off + i * 3 + 1, none⟩ = some (.string (f i).t) ∧ w.cell? ⟨b, off + i * 3 + 2, none⟩ = some (.slice (f i).A (f i).n (f i).c))
      (hs : ∀ i, i < y.n → SxL w (f i)) : SxL w y
theorem SxL.kept {w w' : World} (hb : Below w.heap.size w w') {y : X3} (h : SxL w y) : SxL w' y := by
  induction h with
  | mk y b off f ht hn hA hc _ ih =>
    refine .mk y b off f ht hn (fun h => ⟨(hA h).1, Nat.lt_of_lt_of_le (hA h).2 hb.size⟩) (fun i hi => ?_) ih
    have hlt := (hA (by omega)).2
    obtain ⟨h0, h1, h2⟩ := hc i hi
    exact ⟨(hb.cell (p := ⟨b, off + i * 3, none⟩) hlt).trans h0, (hb.cell (p := ⟨b, off + i * 3 + 1, none⟩) hlt).trans h1, (hb.cell (p := ⟨b, off + i * 3 + 2, none⟩) hlt).trans h2⟩
def X3.val (y : X3) : Value := .agg #[.int .i8 y.k, .string y.t, .slice y.A y.n y.c]
structure MacM where
  nm : ByteArray
  P : Option Addr
  np : Nat
  cp : Nat
  res : Int
  y : X3
structure MacAt (w : World) (b o : Nat) (m : MacM) : Prop where
  c0 : w.cell? ⟨b, o, none⟩ = some (.string m.nm)
  c1 : w.cell? ⟨b, o + 1, none⟩ = some (.slice m.P m.np m.cp)
  c2 : w.cell? ⟨b, o + 2, none⟩ = some (.int .i64 m.res)
  c3 : w.cell? ⟨b, o + 3, none⟩ = some (.int .i8 m.y.k)
  c4 : w.cell? ⟨b, o + 4, none⟩ = some (.string m.y.t)
  c5 : w.cell? ⟨b, o + 5, none⟩ = some (.slice m.y.A m.y.n m.y.c)
  wf : I64 m.res
def MacM.cells (m : MacM) : List Value := [.string m.nm, .slice m.P m.np m.cp, .int .i64 m.res, .int .i8 m.y.k, .string m.y.t, .slice m.y.A m.y.n m.y.c]
structure MacIn (w : World) (m : MacM) : Prop where
  np : m.np ≤ 9223372036854775807
  pars : ∀ i, i < m.np → ∃ b off s z, m.P = some ⟨b, off, none⟩ ∧ b < w.heap.size ∧ w.cell? ⟨b, off + i * 2, none⟩ = some (.string s) ∧ w.cell? ⟨b, off + i * 2 + 1, none⟩ = some (.int .i64 z) ∧ I64 z
  body : SxL w m.y
structure SigV where
  A0 : Option Addr
  c0 : Nat
  sorts : List ByteArray
  A1 : Option Addr
  c1 : Nat
  funs : List FnM
  A2 : Option Addr
  c2 : Nat
  macs : List MacM
def SigV.cells (g : SigV) : Array Value := #[.slice g.A0 g.sorts.length g.c0, .slice g.A1 g.funs.length g.c1, .slice g.A2 g.macs.length g.c2]
structure SigAt (w : World) (g : SigV) : Prop where
  n0 : g.sorts.length ≤ 9223372036854775807
  n1 : g.funs.length ≤ 9223372036854775807
  n2 : g.macs.length ≤ 9223372036854775807
  s : ∀ i (hi : i < g.sorts.length), ∃ b off, g.A0 = some ⟨b, off, none⟩ ∧ b < w.heap.size ∧ w.cell? ⟨b, off + i, none⟩ = some (.string g.sorts[i])
  f : ∀ i (hi : i < g.funs.length), ∃ b off, g.A1 = some ⟨b, off, none⟩ ∧ b < w.heap.size ∧ FnAt w b (off + i * 6) g.funs[i]
  m : ∀ i (hi : i < g.macs.length), ∃ b off, g.A2 = some ⟨b, off, none⟩ ∧ b < w.heap.size ∧ MacAt w b (off + i * 6) g.macs[i]
def SigDeep (w : World) (g : SigV) : Prop := ∀ m ∈ g.macs, MacIn w m
theorem FnAt.below {w w' : World} {b o : Nat} {f : FnM} (h : FnAt w b o f) (hb : Below w.heap.size w w') (hlt : b < w.heap.size) : FnAt w' b o f :=
  ⟨(hb.cell (p := ⟨b, o, none⟩) hlt).trans h.c0, (hb.cell (p := ⟨b, o + 1, none⟩) hlt).trans h.c1, (hb.cell (p := ⟨b, o + 2, none⟩) hlt).trans h.c2, (hb.cell (p := ⟨b, o + 3, none⟩) hlt).trans h.c3, (hb.cell (p := ⟨b, o + 4, none⟩) hlt).trans h.c4, (hb.cell (p := ⟨b, o + 5, none⟩) hlt).trans h.c5, h.wf⟩
theorem MacAt.below {w w' : World} {b o : Nat} {f : MacM} (h : MacAt w b o f) (hb : Below w.heap.size w w') (hlt : b < w.heap.size) : MacAt w' b o f :=
  ⟨(hb.cell (p := ⟨b, o, none⟩) hlt).trans h.c0, (hb.cell (p := ⟨b, o + 1, none⟩) hlt).trans h.c1, (hb.cell (p := ⟨b, o + 2, none⟩) hlt).trans h.c2, (hb.cell (p := ⟨b, o + 3, none⟩) hlt).trans h.c3, (hb.cell (p := ⟨b, o + 4, none⟩) hlt).trans h.c4, (hb.cell (p := ⟨b, o + 5, none⟩) hlt).trans h.c5, h.wf⟩
theorem MacIn.below {w w' : World} {m : MacM} (h : MacIn w m) (hb : Below w.heap.size w w') : MacIn w' m :=
  ⟨h.np, fun i hi => by
    obtain ⟨b, off, s, z, e, hlt, h0, h1, h2⟩ := h.pars i hi
    exact ⟨b, off, s, z, e, Nat.lt_of_lt_of_le hlt hb.size, (hb.cell (p := ⟨b, off + i * 2, none⟩) hlt).trans h0, (hb.cell (p := ⟨b, off + i * 2 + 1, none⟩) hlt).trans h1, h2⟩, h.body.kept hb⟩
theorem SigAt.below {w w' : World} {g : SigV} (h : SigAt w g) (hb : Below w.heap.size w w') : SigAt w' g := by
  refine ⟨h.n0, h.n1, h.n2, fun i hi => ?_, fun i hi => ?_, fun i hi => ?_⟩
  · obtain ⟨b, off, e, hlt, h0⟩ := h.s i hi
    exact ⟨b, off, e, Nat.lt_of_lt_of_le hlt hb.size, (hb.cell (p := ⟨b, off + i, none⟩) hlt).trans h0⟩
  · obtain ⟨b, off, e, hlt, h0⟩ := h.f i hi
    exact ⟨b, off, e, Nat.lt_of_lt_of_le hlt hb.size, h0.below hb hlt⟩
  · obtain ⟨b, off, e, hlt, h0⟩ := h.m i hi
    exact ⟨b, off, e, Nat.lt_of_lt_of_le hlt hb.size, h0.below hb hlt⟩
theorem SigDeep.below {w w' : World} {g : SigV} (h : SigDeep w g) (hb : Below w.heap.size w w') : SigDeep w' g := fun m hm => (h m hm).below hb
def SomeIB (w : World) (e : Ending) (w' : World) : Prop := (∃ n b, e = .returned (.tuple #[.int .i64 n, .bool b])) ∧ Below w.heap.size w w'
theorem SomeIB.mk_ {w w' : World} (n : Int) (b : Bool) (h : Below w.heap.size w w') : SomeIB w (.returned (.tuple #[.int .i64 n, .bool b])) w' := ⟨⟨n, b, rfl⟩, h⟩
theorem sig_box (w : World) (g : SigV) : Below w.heap.size w (w.alloc (.cells g.cells 26)) := (Below.refl _ w).alloc (Nat.le_refl _) _
set_option maxRecDepth 100000 in
theorem lsort_ok {w : World} {g : SigV} (h : SigAt w g) (s : ByteArray) : Calls Tryz.prog 166 #[.agg g.cells, .string s] w (SomeIB w) := by
  have H := zzh h
  have HB0 := zzh (sig_box w g)
  have HG0 := zzh (Blk.new w 26 g.cells)
  have hn := h.n0
  clear h
  obtain ⟨A0, c0, S, A1, c1, F, A2, c2, M⟩ := g
  unfold SigV.cells at *
  simp only at *
  have x0 := HG0.out.cell 0
  simp only [zzg, zzi] at x0
  go_enter Tryz.func166, Tryz.ntmps166
  go_upto_region 5 with fail
  · refine bodyPost_ret (v := .tuple #[.int .i64 0, .bool true]) (by simp [results, Tryz.results166, go_sem]) rfl (SomeIB.mk_ _ _ HB0.out)
  · refine bodyPost_ret (v := .tuple #[.int .i64 1, .bool true]) (by simp [results, Tryz.results166, go_sem]) rfl (SomeIB.mk_ _ _ HB0.out)
  · go_wp2
    generalize w.alloc (.cells #[.slice A0 S.length c0, .slice A1 F.length c1, .slice A2 M.length c2] 26) = w0 at *
    clear HG0
    go_loopg [6] S.length (fun g v wr => ∃ i : Nat, i + g = S.length ∧ v = .int .i64 i ∧ w0 = wr)
    case atStart => exact ⟨0, by omega, rfl, rfl⟩
    case round =>
      obtain ⟨i, hig, rfl, rfl⟩ := hrel
      cases gk with
      | zero =>
        obtain rfl : i = S.length := by omega
        have d1 : decide ((S.length : Int) < S.length) = false := by simp
        go_wp2
        refine bodyPost_ret (v := .tuple #[.int .i64 0, .bool false]) (by simp [results, Tryz.results166, go_sem]) rfl (SomeIB.mk_ _ _ HB0.out)
      | succ g =>
        have hlt : i < S.length := by omega
        have d1 : decide ((i : Int) < S.length) = true := by simp; omega
        have t1 : (0 : Int) ≤ (i : Int) := by omega
        have t2 : (i : Int) < (S.length : Int) := by omega
        obtain ⟨b, off, hA, hb, y0⟩ := (H.out.below HB0.out).s i hlt
        dsimp only at hA y0
        subst hA
        generalize S[i] = z at *
        go_wp2_with fail
        · refine bodyPost_ret (v := .tuple #[.int .i64 (wrap64 (2 + i)), .bool true]) (by simp [results, Tryz.results166, go_sem]) rfl (SomeIB.mk_ _ _ HB0.out)
        · go_roundg g
          case measure => omega
          case rel => exact ⟨i + 1, by omega, by go_num, rfl⟩
set_option maxRecDepth 100000 in
theorem lfun_ok {w : World} {g : SigV} (h : SigAt w g) (s : ByteArray) : Calls Tryz.prog 167 #[.agg g.cells, .string s] w (SomeIB w) := by
  have H := zzh h
  have HB0 := zzh (sig_box w g)
  have HG0 := zzh (Blk.new w 26 g.cells)
  have hn := h.n1
  clear h
  obtain ⟨A0, c0, S, A1, c1, F, A2, c2, M⟩ := g
  unfold SigV.cells at *
  simp only at *
  have x0 := HG0.out.cell 1
  simp only [zzg, zzi, zzj] at x0
  go_enter Tryz.func167, Tryz.ntmps167
  go_wp2
  generalize w.alloc (.cells #[.slice A0 S.length c0, .slice A1 F.length c1, .slice A2 M.length c2] 26) = w0 at *
  clear HG0
  go_loopg [6] F.length (fun g v wr => ∃ i : Nat, i + g = F.length ∧ v = .int .i64 i ∧ w0 = wr)
  case atStart => exact ⟨0, by omega, rfl, rfl⟩
  case round =>
    obtain ⟨i, hig, rfl, rfl⟩ := hrel
    cases gk with
    | zero =>
      obtain rfl : i = F.length := by omega
      have d1 : decide ((F.length : Int) < F.length) = false := by simp
      go_wp2
      refine bodyPost_ret (v := .tuple #[.int .i64 0, .bool false]) (by simp [results, Tryz.results167, go_sem]) rfl (SomeIB.mk_ _ _ HB0.out)
    | succ g =>
      have hlt : i < F.length := by omega
      have d1 : decide ((i : Int) < F.length) = true := by simp; omega
      have t1 : (0 : Int) ≤ (i : Int) := by omega
      have t2 : (i : Int) < (F.length : Int) := by omega
      obtain ⟨b, off, hA, hb, hat⟩ := (H.out.below HB0.out).f i hlt
      dsimp only at hA hat
      have y0 := hat.c0
      subst hA
      clear hat
      generalize F[i] = z at *
      go_wp2_with fail
      · refine bodyPost_ret (v := .tuple #[.int .i64 i, .bool true]) (by simp [results, Tryz.results167, go_sem]) rfl (SomeIB.mk_ _ _ HB0.out)
      · go_roundg g
        case measure => omega
        case rel => exact ⟨i + 1, by omega, by go_num, rfl⟩
set_option maxRecDepth 100000 in
theorem lmacro_ok {w : World} {g : SigV} (h : SigAt w g) (s : ByteArray) : Calls Tryz.prog 168 #[.agg g.cells, .string s] w (SomeIB w) := by
  have H := zzh h
  have HB0 := zzh (sig_box w g)
  have HG0 := zzh (Blk.new w 26 g.cells)
  have hn := h.n2
  clear h
  obtain ⟨A0, c0, S, A1, c1, F, A2, c2, M⟩ := g
  unfold SigV.cells at *
  simp only at *
  have x0 := HG0.out.cell 2
  simp only [zzg, zzi, zzj] at x0
  go_enter Tryz.func168, Tryz.ntmps168
  go_wp2
  generalize w.alloc (.cells #[.slice A0 S.length c0, .slice A1 F.length c1, .slice A2 M.length c2] 26) = w0 at *
  clear HG0
  go_loopg [6] M.length (fun g v wr => ∃ i : Nat, i + g = M.length ∧ v = .int .i64 i ∧ w0 = wr)
  case atStart => exact ⟨0, by omega, rfl, rfl⟩
  case round =>
    obtain ⟨i, hig, rfl, rfl⟩ := hrel
    cases gk with
    | zero =>
      obtain rfl : i = M.length := by omega
      have d1 : decide ((M.length : Int) < M.length) = false := by simp
      go_wp2
      refine bodyPost_ret (v := .tuple #[.int .i64 0, .bool false]) (by simp [results, Tryz.results168, go_sem]) rfl (SomeIB.mk_ _ _ HB0.out)
    | succ g =>
      have hlt : i < M.length := by omega
      have d1 : decide ((i : Int) < M.length) = true := by simp; omega
      have t1 : (0 : Int) ≤ (i : Int) := by omega
      have t2 : (i : Int) < (M.length : Int) := by omega
      obtain ⟨b, off, hA, hb, hat⟩ := (H.out.below HB0.out).m i hlt
      dsimp only at hA hat
      have y0 := hat.c0
      subst hA
      clear hat
      generalize M[i] = z at *
      go_wp2_with fail
      · refine bodyPost_ret (v := .tuple #[.int .i64 i, .bool true]) (by simp [results, Tryz.results168, go_sem]) rfl (SomeIB.mk_ _ _ HB0.out)
      · go_roundg g
        case measure => omega
        case rel => exact ⟨i + 1, by omega, by go_num, rfl⟩
def SomeSB (b : Bool) (w : World) (e : Ending) (w' : World) : Prop := (∃ n, e = .returned (.tuple #[.string n, .bool b])) ∧ Below w.heap.size w w'
theorem SomeSB.mk_ {w w' : World} (n : ByteArray) {b c : Bool} (hb : b = c) (h : Below w.heap.size w w') : SomeSB c w (.returned (.tuple #[.string n, .bool b])) w' := ⟨⟨n, by rw [hb]⟩, h⟩
def thereM (n : Nat) (z : Int) : Bool := decide (0 ≤ z ∧ z < (n : Int) + 2)
set_option maxRecDepth 100000 in
theorem lsortName_ok {w : World} {g : SigV} (h : SigAt w g) (z : Int) (hz : I64 z) : Calls Tryz.prog 180 #[.agg g.cells, .int .i64 z] w (SomeSB (thereM g.sorts.length z) w) := by
  have H := zzh h
  have HB0 := zzh (sig_box w g)
  have HG0 := zzh (Blk.new w 26 g.cells)
  have hn := h.n0
  obtain ⟨hz0, hz1⟩ := hz
  clear h
  obtain ⟨A0, c0, S, A1, c1, F, A2, c2, M⟩ := g
  unfold SigV.cells at *
  simp only at *
  have x0 := HG0.out.cell 0
  simp only [zzg, zzi] at x0
  by_cases h2 : 2 ≤ z ∧ z - 2 < S.length
  · obtain ⟨k, rfl⟩ : ∃ k : Nat, z = (k : Int) + 2 := ⟨(z - 2).toNat, by omega⟩
    have hk : k < S.length := by omega
    have e0 : (((k : Int) + 2) == 0) = false := beq_eq_false_iff_ne.2 (by omega)
    have e1 : (((k : Int) + 2) == 1) = false := beq_eq_false_iff_ne.2 (by omega)
    have e2 : decide (((k : Int) + 2) ≥ 2) = true := decide_eq_true (by omega)
    have e2' : decide ((2 : Int) ≤ (k : Int) + 2) = true := decide_eq_true (by omega)
    have e3 : IntKind.i64.wrap ((k : Int) + 2 - 2) = (k : Int) := by rw [IntKind.wrap_i64]; omega
    have e4 : decide ((k : Int) < S.length) = true := decide_eq_true (by omega)
    have t1 : (0 : Int) ≤ (k : Int) := by omega
    have t2 : (k : Int) < (S.length : Int) := by omega
    obtain ⟨b, off, hA, hb, y0⟩ := (H.out.below HB0.out).s k hk
    dsimp only at hA y0
    subst hA
    generalize S[k] = s at *
    have HT : Hid (true = thereM S.length ((k : Int) + 2)) := zzh (decide_eq_true (by omega)).symm
    clear h2 hz0 hz1
    go_enter Tryz.func180, Tryz.ntmps180
    go_wp2
    refine bodyPost_ret (v := .tuple #[.string s, .bool true]) (by simp [results, Tryz.results180, go_sem]) rfl (SomeSB.mk_ _ HT.out HB0.out)
  · by_cases h0 : z = 0
    · subst h0
      have HT : Hid (true = thereM S.length 0) := zzh (decide_eq_true (by omega)).symm
      go_enter Tryz.func180, Tryz.ntmps180
      go_wp2
      refine bodyPost_ret (v := .tuple #[.string { data := #[66, 111, 111, 108] }, .bool true]) (by simp [results, Tryz.results180, go_sem]) rfl (SomeSB.mk_ _ HT.out HB0.out)
    by_cases h1 : z = 1
    · subst h1
      have HT : Hid (true = thereM S.length 1) := zzh (decide_eq_true (by omega)).symm
      go_enter Tryz.func180, Tryz.ntmps180
      go_wp2
      refine bodyPost_ret (v := .tuple #[.string { data := #[73, 110, 116] }, .bool true]) (by simp [results, Tryz.results180, go_sem]) rfl (SomeSB.mk_ _ HT.out HB0.out)
    have HT : Hid (false = thereM S.length z) := zzh (decide_eq_false (by omega)).symm
    have e0 : (z == 0) = false := beq_eq_false_iff_ne.2 h0
    have e1 : (z == 1) = false := beq_eq_false_iff_ne.2 h1
    by_cases h3 : 2 ≤ z
    · have e2 : decide (z ≥ 2) = true := decide_eq_true h3
      have e2' : decide (2 ≤ z) = true := decide_eq_true h3
      obtain ⟨u, hu⟩ : ∃ u, IntKind.i64.wrap (z - 2) = u := ⟨_, rfl⟩
      have e4 : decide (u < (S.length : Int)) = false := decide_eq_false (by rw [← hu, IntKind.wrap_i64]; omega)
      clear h0 h1 h2 h3 hz0 hz1
      go_enter Tryz.func180, Tryz.ntmps180
      go_wp2
      refine bodyPost_ret (v := .tuple #[.string { data := #[] }, .bool false]) (by simp [results, Tryz.results180, go_sem]) rfl (SomeSB.mk_ _ HT.out HB0.out)
    · have e2 : decide (z ≥ 2) = false := decide_eq_false h3
      have e2' : decide (2 ≤ z) = false := decide_eq_false h3
      clear h0 h1 h2 h3 hz0 hz1
      go_enter Tryz.func180, Tryz.ntmps180
      go_wp2
      refine bodyPost_ret (v := .tuple #[.string { data := #[] }, .bool false]) (by simp [results, Tryz.results180, go_sem]) rfl (SomeSB.mk_ _ HT.out HB0.out)
theorem blk3 {w : World} {b : Nat} {t : TypeId} {c0 c1 c2 : Value} (h : Blk w b t #[c0, c1, c2]) :
    w.cell? ⟨b, 0, none⟩ = some c0 ∧ w.cell? ⟨b, 1, none⟩ = some c1 ∧ w.cell? ⟨b, 2, none⟩ = some c2 := ⟨h.cell 0, h.cell 1, h.cell 2⟩
theorem there_ok {w : World} {g : SigV} (h : SigAt w g) (z : Int) (hz : I64 z) : Calls Tryz.prog 170 #[.agg g.cells, .int .i64 z] w fun e w' => e = .returned (.bool (thereM g.sorts.length z)) ∧ Below w.heap.size w w' := by
  have HB0 := zzh (sig_box w g)
  have HG0 := zzh (Blk.new w 26 g.cells)
  have KS := zzh (lsortName_ok (h.below HB0.out) z hz)
  clear h hz
  obtain ⟨A0, c0, S, A1, c1, F, A2, c2, M⟩ := g
  unfold SigV.cells at *
  simp only at *
  generalize thereM S.length z = q at *
  obtain ⟨x0, x1, x2⟩ := blk3 HG0.out
  go_enter Tryz.func170, Tryz.ntmps170
  go_wp2_with (go_at_call 180; refine KS.out.mono ?_; rintro e w1 ⟨⟨n, rfl⟩, hb1⟩)
  go_ret
  exact ⟨rfl, HB0.out.trans (hb1.mono HB0.out.size)⟩
def SomeI (w : World) (e : Ending) (w' : World) : Prop := (∃ n, e = .returned (.int .i64 n)) ∧ Below w.heap.size w w'
theorem SomeI.mk_ {w w' : World} (n : Int) (h : Below w.heap.size w w') : SomeI w (.returned (.int .i64 n)) w' := ⟨⟨n, rfl⟩, h⟩
theorem sig_blk {w : World} {g : SigV} {b : Nat} (h : Blk w b 26 g.cells) : w.cell? ⟨b, 0, none⟩ = some (.slice g.A0 g.sorts.length g.c0) ∧ w.cell? ⟨b, 1, none⟩ = some (.slice g.A1 g.funs.length g.c1) ∧ w.cell? ⟨b, 2, none⟩ = some (.slice g.A2 g.macs.length g.c2) := ⟨h.cell 0, h.cell 1, h.cell 2⟩
set_option maxRecDepth 100000 in
set_option maxHeartbeats 1000000 in
theorem lfree_ok {w : World} {g : SigV} (h : SigAt w g) (s : ByteArray) (b : Bool) : Calls Tryz.prog 144 #[.agg g.cells, .string s, .bool b] w (SomeI w) := by
  have HB0 := zzh (sig_box w g)
  have HG0 := zzh (Blk.new w 26 g.cells)
  have H := zzh (h.below HB0.out)
  clear h
  have HX := zzh (fun W (hW : Below (w.alloc (.cells g.cells 26)).heap.size (w.alloc (.cells g.cells 26)) W) => sig_blk (HG0.out.below hW HG0.out.lt))
  have KS := zzh (fun W (hW : Below (w.alloc (.cells g.cells 26)).heap.size (w.alloc (.cells g.cells 26)) W) => lsort_ok (H.out.below hW) s)
  have KF := zzh (fun W (hW : Below (w.alloc (.cells g.cells 26)).heap.size (w.alloc (.cells g.cells 26)) W) => lfun_ok (H.out.below hW) s)
  have KM := zzh (fun W (hW : Below (w.alloc (.cells g.cells 26)).heap.size (w.alloc (.cells g.cells 26)) W) => lmacro_ok (H.out.below hW) s)
  obtain ⟨x0, x1, x2⟩ := sig_blk HG0.out
  obtain ⟨A0, c0, S, A1, c1, F, A2, c2, M⟩ := g
  unfold SigV.cells at *
  simp only at *
  clear HG0 H
  go_enter Tryz.func144, Tryz.ntmps144
  go_upto_region 1 with fail
  generalize w.alloc (.cells #[.slice A0 S.length c0, .slice A1 F.length c1, .slice A2 M.length c2] 26) = w0 at *
  cases b with
  | true =>
    go_wp2_with (first
      | (go_at_call 164; refine (lname_ok s _).mono ?_; rintro e w1 ⟨⟨b1, rfl⟩, rfl⟩; cases b1)
      | (go_at_call 165; refine (lreserved_ok s _).mono ?_; rintro e w1 ⟨⟨b1, rfl⟩, rfl⟩; cases b1)
      | (go_at_call 166; refine (KS.out _ (Below.refl _ _)).mono ?_; rintro e w1 ⟨⟨n1, b1, rfl⟩, hb1⟩; cases b1))
    all_goals first
      | (go_ret; exact SomeI.mk_ _ HB0.out)
      | (go_ret; exact SomeI.mk_ _ (HB0.out.trans (hb1.mono HB0.out.size)))
  | false =>
    go_wp2_with (first
      | (go_at_call 168; refine (KM.out _ hb2).mono ?_; rintro e w3 ⟨⟨n3, b3, rfl⟩, hb3⟩; cases b3)
      | (go_at_call 167; refine (KF.out _ hb1).mono ?_; rintro e w2 ⟨⟨n2, b2, rfl⟩, hb2⟩; have hb2 := hb1.trans (hb2.mono hb1.size); obtain ⟨y0, y1, y2⟩ := HX.out _ hb2; cases b2)
      | (go_at_call 166; refine (KS.out _ (Below.refl _ _)).mono ?_; rintro e w1 ⟨⟨n1, b1, rfl⟩, hb1⟩; obtain ⟨y0, y1, y2⟩ := HX.out _ hb1; cases b1)
      | (go_at_call 169; refine (lcore_ok s _).mono ?_; rintro e w4 ⟨⟨b4, rfl⟩, rfl⟩; cases b4)
      | (go_at_call 164; refine (lname_ok s _).mono ?_; rintro e w1 ⟨⟨b1, rfl⟩, rfl⟩; cases b1)
      | (go_at_call 165; refine (lreserved_ok s _).mono ?_; rintro e w1 ⟨⟨b1, rfl⟩, rfl⟩; cases b1))
    all_goals first
      | (go_ret; exact SomeI.mk_ _ HB0.out)
      | (go_ret; exact SomeI.mk_ _ (HB0.out.trans ((hb2.trans (hb3.mono hb2.size)).mono HB0.out.size)))
end Go.Proofs.YtlipnnibagidiaaGreat

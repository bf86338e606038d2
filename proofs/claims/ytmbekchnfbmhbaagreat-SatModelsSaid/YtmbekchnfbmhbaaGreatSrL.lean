/- may. -/
import Derived.Test.YtmbekchnfbmhbaaGreatSrK
namespace Go.Proofs.YtmbekchnfbmhbaaGreat
open Go.RowKit Go.Lib

/-- The first place of which p holds; -1 if there is none. -/
def idxG {α : Type} (p : α → Bool) : List α → Nat → Int
  | [], _ => -1
  | x :: r, i => if p x then i else idxG p r (i + 1)
theorem idxG_any {α : Type} (p : α → Bool) : ∀ (zs : List α) (i : Nat), decide (0 ≤ idxG p zs i) = zs.any p
  | [], i => rfl
  | x :: r, i => by
    unfold idxG
    rw [List.any_cons]
    cases hp : p x with
    | true => simp
    | false =>
      rw [if_neg (by decide), Bool.false_or]
      exact idxG_any p r (i + 1)

/-- Has a literal a node that is none? -/
def wideN (n : Int) (x : Int) : Bool := decide (n ≤ x / 2)
def badC (n : Int) (c : List Int) : Bool := !(c == makeM c) || c.any (wideN n)
theorem may11_ok {w : World} {n : Int} (g : Nat) (hg : w.cell? ⟨g, 0, none⟩ = some (.int .i64 n)) (x : Int) :
    Calls Tryz.prog 30 #[.int .i64 x, .pointer (some ⟨g, 0, none⟩)] w fun e w' => e = .returned (.bool (wideN n x)) ∧ w = w' := by
  unfold wideN
  go_enter Tryz.func30, Tryz.ntmps30
  go_wp2
  go_ret
  exact ⟨rfl, rfl⟩
theorem indexf_may {w : World} {A : Option Addr} {zs : List Int} {n : Int} (cap g : Nat) (h : Row .i64 w A zs) (hg : w.cell? ⟨g, 0, none⟩ = some (.int .i64 n)) :
    Calls Tryz.prog 48 #[.slice A zs.length cap, .func (.func 30) #[] #[.pointer (some ⟨g, 0, none⟩)]] w fun e w' => e = .returned (.int .i64 (idxF (wideN n) zs 0)) ∧ w = w' := by
  have hlen := h.len
  have H := Lib.hid h
  have Hg := Lib.hid hg
  clear h hg
  go_enter Tryz.func48, Tryz.ntmps48
  go_wp2
  go_loopg [8] zs.length (fun g v wx => w = wx ∧ ∃ i : Nat, i + g = zs.length ∧ v = .int .i64 i ∧ idxF (wideN n) (zs.drop i) i = idxF (wideN n) zs 0)
  case atStart => exact ⟨rfl, 0, by omega, rfl, rfl⟩
  case round =>
    obtain ⟨rfl, i, hig, rfl, hinv⟩ := hrel
    have HI := Lib.hid hinv
    clear hinv
    cases gk with
    | zero =>
      have d1 : decide ((i : Int) < zs.length) = false := by simp; omega
      have HN := Lib.hid (show zs.drop i = [] from List.drop_eq_nil_of_le (by omega))
      go_wp2
      go_ret
      rw [← HI.out, HN.out]
      exact ⟨rfl, rfl⟩
    | succ k =>
      have hin : i < zs.length := by omega
      have d1 : decide ((i : Int) < zs.length) = true := by simp; omega
      obtain ⟨b, off, hA, hb, hcell⟩ := H.out.at_.resolve_left (by omega)
      subst hA
      have c0 := hcell i hin
      have Hdr := Lib.hid (show zs.drop i = zs[i] :: zs.drop (i + 1) from List.drop_eq_getElem_cons hin)
      clear hcell
      generalize zs[i] = x at *
      cases hp : wideN n x with
      | true =>
        have Hp := Lib.hid hp
        clear hp
        go_wp2_with (go_at_call 30; refine (may11_ok g Hg.out x).mono ?_; rintro e w1 ⟨rfl, rfl⟩; rw [Hp.out])
        go_ret
        rw [← HI.out, Hdr.out]
        unfold idxF
        rw [if_pos Hp.out]
        exact ⟨rfl, rfl⟩
      | false =>
        have Hp := Lib.hid hp
        clear hp
        go_wp2_with (go_at_call 30; refine (may11_ok g Hg.out x).mono ?_; rintro e w1 ⟨rfl, rfl⟩; rw [Hp.out])
        go_roundg k
        case measure => omega
        case rel => exact ⟨rfl, i + 1, by omega, by go_num, by rw [← HI.out, Hdr.out]; conv => rhs; unfold idxF; rw [if_neg (by rw [Hp.out]; decide)]⟩
theorem containsf_may {w : World} {A : Option Addr} {zs : List Int} {n : Int} (cap g : Nat) (h : Row .i64 w A zs) (hg : w.cell? ⟨g, 0, none⟩ = some (.int .i64 n)) :
    Calls Tryz.prog 29 #[.slice A zs.length cap, .func (.func 30) #[] #[.pointer (some ⟨g, 0, none⟩)]] w fun e w' => e = .returned (.bool (zs.any (wideN n))) ∧ w = w' := by
  rw [← idxF_any (wideN n) zs 0]
  have H := Lib.hid h
  have Hg := Lib.hid hg
  clear h hg
  go_enter Tryz.func29, Tryz.ntmps29
  go_wp2_with (go_at_call 48; refine (indexf_may cap g H.out Hg.out).mono ?_; rintro e w1 ⟨rfl, rfl⟩)
  go_ret
  exact ⟨rfl, rfl⟩
theorem may1_ok {w : World} {A : Option Addr} {zs : List Int} {n : Int} (cap g : Nat) (h : Row .i64 w A zs) (hn : A = none → cap = 0) (hg : w.cell? ⟨g, 0, none⟩ = some (.int .i64 n)) (hlt : g < w.heap.size) :
    Calls Tryz.prog 27 #[.slice A zs.length cap, .pointer (some ⟨g, 0, none⟩)] w fun e w' => e = .returned (.bool (badC n zs)) ∧ Below w.heap.size w w' := by
  unfold badC
  have K1 := is_ok cap h hn
  have H := Lib.hid h
  have Hg := Lib.hid hg
  clear h hn hg
  generalize hq : (zs == makeM zs) = q at *
  clear hq
  go_enter Tryz.func27, Tryz.ntmps27
  cases q with
  | false =>
    go_wp2_with (go_at_call 28; (with_reducible refine K1.mono ?_); rintro e w1 ⟨rfl, hb1⟩; have HB1 := Lib.hid hb1; clear hb1)
    go_ret
    exact ⟨rfl, HB1.out⟩
  | true =>
    go_wp2_with (first
      | (go_at_call 28; (with_reducible refine K1.mono ?_); rintro e w1 ⟨rfl, hb1⟩; have HB1 := Lib.hid hb1; have HR1 := Lib.hid (H.out.below hb1); have HG1 := Lib.hid ((hb1.cell (p := ⟨g, 0, none⟩) hlt).trans Hg.out); clear hb1)
      | (go_at_call 29; refine (containsf_may cap g HR1.out HG1.out).mono ?_; rintro e w2 ⟨rfl, rfl⟩))
    go_ret
    exact ⟨rfl, HB1.out⟩
theorem indexg_may {w : World} {A : Option Addr} {rows : List RowT} {n : Int} (cap g : Nat) (h : Grid w A rows) (hg : w.cell? ⟨g, 0, none⟩ = some (.int .i64 n)) (hlt : g < w.heap.size) :
    Calls Tryz.prog 45 #[.slice A rows.length cap, .func (.func 27) #[] #[.pointer (some ⟨g, 0, none⟩)]] w fun e w' => e = .returned (.int .i64 (idxG (fun r : RowT => badC n r.2.2) rows 0)) ∧ Below w.heap.size w w' := by
  have hlen := h.len
  have H := Lib.hid h
  have Hg := Lib.hid hg
  clear h hg
  go_enter Tryz.func45, Tryz.ntmps45
  go_wp2
  go_loopg [8] rows.length (fun g v wx => Below w.heap.size w wx ∧ ∃ i : Nat, i + g = rows.length ∧ v = .int .i64 i ∧ idxG (fun r : RowT => badC n r.2.2) (rows.drop i) i = idxG (fun r : RowT => badC n r.2.2) rows 0)
  case atStart => exact ⟨Below.refl _ _, 0, by omega, rfl, rfl⟩
  case round =>
    obtain ⟨hbel, i, hig, rfl, hinv⟩ := hrel
    have HI := Lib.hid hinv
    have HB := Lib.hid hbel
    clear hinv hbel
    cases gk with
    | zero =>
      have d1 : decide ((i : Int) < rows.length) = false := by simp; omega
      have HN := Lib.hid (show rows.drop i = [] from List.drop_eq_nil_of_le (by omega))
      go_wp2
      go_ret
      rw [← HI.out, HN.out]
      exact ⟨rfl, HB.out⟩
    | succ k =>
      have hin : i < rows.length := by omega
      have d1 : decide ((i : Int) < rows.length) = true := by simp; omega
      obtain ⟨b, off, hA, hb, hcell⟩ := (H.out.below HB.out).at_.resolve_left (by omega)
      subst hA
      obtain ⟨c0, hrow, hnil⟩ := hcell i hin
      have hg1 := (HB.out.cell (p := ⟨g, 0, none⟩) hlt).trans Hg.out
      have hlt1 : g < wr.heap.size := Nat.lt_of_lt_of_le hlt HB.out.size
      have Hdr := Lib.hid (show rows.drop i = rows[i] :: rows.drop (i + 1) from List.drop_eq_getElem_cons hin)
      clear hcell
      have K1 := may1_ok rows[i].2.1 g hrow hnil hg1 hlt1
      have t1 : (0 : Int) ≤ (i : Int) := by omega
      have t2 : (i : Int) < (rows.length : Int) := by omega
      clear hrow hnil hg1
      cases hp : badC n rows[i].2.2 with
      | true =>
        rw [hp] at K1
        have Hp := Lib.hid hp
        clear hp
        go_wp2_with (go_at_call 27; (with_reducible refine K1.mono ?_); rintro e w1 ⟨rfl, hb1⟩; have HB1 := Lib.hid (HB.out.trans (hb1.mono HB.out.size)); clear hb1)
        go_ret
        rw [← HI.out, Hdr.out]
        unfold idxG
        rw [if_pos Hp.out]
        exact ⟨rfl, HB1.out⟩
      | false =>
        rw [hp] at K1
        have Hp := Lib.hid hp
        clear hp
        go_wp2_with (go_at_call 27; (with_reducible refine K1.mono ?_); rintro e w1 ⟨rfl, hb1⟩; have HB1 := Lib.hid (HB.out.trans (hb1.mono HB.out.size)); clear hb1)
        go_roundg k
        case measure => omega
        case rel => exact ⟨HB1.out, i + 1, by omega, by go_num, by rw [← HI.out, Hdr.out]; conv => rhs; unfold idxG; rw [if_neg (by rw [Hp.out]; decide)]⟩
theorem containsg_may {w : World} {A : Option Addr} {rows : List RowT} {n : Int} (cap g : Nat) (h : Grid w A rows) (hg : w.cell? ⟨g, 0, none⟩ = some (.int .i64 n)) (hlt : g < w.heap.size) :
    Calls Tryz.prog 26 #[.slice A rows.length cap, .func (.func 27) #[] #[.pointer (some ⟨g, 0, none⟩)]] w fun e w' => e = .returned (.bool (rows.any fun r : RowT => badC n r.2.2)) ∧ Below w.heap.size w w' := by
  rw [← idxG_any (fun r : RowT => badC n r.2.2) rows 0]
  have K := indexg_may cap g h hg hlt
  clear h hg
  go_enter Tryz.func26, Tryz.ntmps26
  go_wp2_with (go_at_call 45; (with_reducible refine K.mono ?_); rintro e w1 ⟨rfl, hb1⟩; have HB1 := Lib.hid hb1; clear hb1)
  go_ret
  exact ⟨rfl, HB1.out⟩

/-- May it be asked? -/
def mayB (n : Int) (rows : List RowT) (budget : Int) : Bool := decide (0 ≤ n ∧ n ≤ 4096 ∧ 0 ≤ budget ∧ budget ≤ 1048576) && !rows.any fun r => badC n r.2.2
set_option maxHeartbeats 1000000 in
theorem may_ok {w : World} {A : Option Addr} {rows : List RowT} {n budget : Int} (cap : Nat) (h : Grid w A rows) :
    Calls Tryz.prog 16 #[.int .i64 n, .slice A rows.length cap, .int .i64 budget] w fun e w' => e = .returned (.bool (mayB n rows budget)) ∧ Below w.heap.size w w' := by
  have hal : Below w.heap.size w (w.alloc (.cells #[.int .i64 n] 3)) := (Below.refl _ w).alloc (Nat.le_refl _) _
  have HA := Lib.hid hal
  by_cases hr : 0 ≤ n ∧ n ≤ 4096 ∧ 0 ≤ budget ∧ budget ≤ 1048576
  · have K := containsg_may (n := n) cap w.heap.size (h.below hal) ((Blk.new w _ _).cell 0) (by simp)
    have e : mayB n rows budget = !rows.any fun r => badC n r.2.2 := by
      unfold mayB
      rw [decide_eq_true hr, Bool.true_and]
    rw [e]
    generalize (rows.any fun r : RowT => badC n r.2.2) = q at *
    obtain ⟨h1, h2, h3, h4⟩ := hr
    clear e h hal
    go_enter Tryz.func16, Tryz.ntmps16
    go_wp2_with (go_at_call 26; (with_reducible refine K.mono ?_); rintro e w1 ⟨rfl, hb1⟩; have HB1 := Lib.hid (HA.out.trans (hb1.mono HA.out.size)); clear hb1)
    go_ret
    exact ⟨rfl, HB1.out⟩
  · have e : mayB n rows budget = false := by
      unfold mayB
      rw [decide_eq_false hr, Bool.false_and]
    rw [e]
    have HR := Lib.hid hr
    clear e h hal hr
    go_enter Tryz.func16, Tryz.ntmps16
    go_wp2_with fail
    all_goals first
      | (go_ret; exact ⟨rfl, HA.out⟩)
      | (exfalso; have := HR.out; omega)
end Go.Proofs.YtmbekchnfbmhbaaGreat

/- The references' has, Within; Closes, Implies. -/
import Derived.Test.YtfkjojogkdlcgaaUnD
namespace Go.Proofs.Ytfkjojogkdlcgaa
open Go.RowKit Go.Lib

theorem mem_drop_cons {zs : List Int} {i : Nat} (h : i < zs.length) (x : Int) : (x ∈ zs.drop i) ↔ (zs[i] = x ∨ x ∈ zs.drop (i + 1)) := by
  rw [List.drop_eq_getElem_cons h, List.mem_cons]
  exact or_congr ⟨fun h => h.symm, fun h => h.symm⟩ Iff.rfl

theorem has_ok {w : World} {A : Option Addr} {zs : List Int} (cap : Nat) (h : Row .i64 w A zs) (x : Int) :
    Calls Try.prog 36 #[.slice A zs.length cap, .int .i64 x] w fun e w' => e = .returned (.bool (decide (x ∈ zs))) ∧ w = w' := by
  have hlen := h.len
  have H := Lib.hid h
  clear h
  go_enter Try.func36, Try.ntmps36
  go_wp2
  go_loopg [5] zs.length (fun g v wx => w = wx ∧ ∃ i : Nat, i + g = zs.length ∧ v = .int .i64 i ∧ (x ∈ zs ↔ x ∈ zs.drop i))
  case atStart => exact ⟨rfl, 0, by omega, rfl, Iff.rfl⟩
  case round =>
    obtain ⟨rfl, i, hig, rfl, hinv⟩ := hrel
    have HI := Lib.hid hinv
    clear hinv
    cases gk with
    | zero =>
      have d1 : decide ((i : Int) < zs.length) = false := by simp; omega
      have HN := Lib.hid (show decide (x ∈ zs) = false from decide_eq_false (fun hx => by have := HI.out.1 hx; rw [List.drop_eq_nil_of_le (by omega)] at this; cases this))
      go_wp2
      go_ret
      rw [HN.out]
      exact ⟨rfl, rfl⟩
    | succ k =>
      have hin : i < zs.length := by omega
      have d1 : decide ((i : Int) < zs.length) = true := by simp; omega
      obtain ⟨b, off, hA, hb, hcell⟩ := H.out.at_.resolve_left (by omega)
      subst hA
      have c0 := hcell i hin
      have Hdr := Lib.hid (mem_drop_cons hin x)
      have t1 : (0 : Int) ≤ (i : Int) := by omega
      have t2 : (i : Int) < (zs.length : Int) := by omega
      clear hcell
      generalize zs[i] = y at *
      by_cases hp : y = x
      · subst hp
        have HN := Lib.hid (show decide (y ∈ zs) = true from decide_eq_true (HI.out.2 (Hdr.out.2 (.inl rfl))))
        go_wp2
        go_ret
        rw [HN.out]
        exact ⟨rfl, rfl⟩
      · have b1 : (y == x) = false := beq_eq_false_iff_ne.2 hp
        have Hp := Lib.hid hp
        clear hp
        go_wp2
        go_roundg k
        case measure => omega
        case rel => exact ⟨rfl, i + 1, by omega, by go_num, HI.out.trans (Hdr.out.trans ⟨fun h => h.resolve_left Hp.out, .inr⟩)⟩

theorem within15_ok {w : World} {A B : Option Addr} {zs bs : List Int} (cap capb : Nat) (h : Row .i64 w A zs) (k : Row .i64 w B bs) :
    Calls Try.prog 18 #[.slice A zs.length cap, .slice B bs.length capb] w fun e w' => e = .returned (.bool (zs.all fun x => decide (x ∈ bs))) ∧ w = w' := by
  have hlen := h.len
  have H := Lib.hid h
  have K := Lib.hid k
  clear h k
  go_enter Try.func18, Try.ntmps18
  go_wp2
  go_loopg [5] zs.length (fun g v wx => w = wx ∧ ∃ i : Nat, i + g = zs.length ∧ v = .int .i64 i ∧ (zs.all fun x => decide (x ∈ bs)) = ((zs.drop i).all fun x => decide (x ∈ bs)))
  case atStart => exact ⟨rfl, 0, by omega, rfl, rfl⟩
  case round =>
    obtain ⟨rfl, i, hig, rfl, hinv⟩ := hrel
    have HI := Lib.hid hinv
    clear hinv
    cases gk with
    | zero =>
      have d1 : decide ((i : Int) < zs.length) = false := by simp; omega
      have HN := Lib.hid (show zs.drop i = [] from List.drop_eq_nil_of_le (by omega))
      go_wp2
      go_ret
      rw [HI.out, HN.out]
      exact ⟨rfl, rfl⟩
    | succ n =>
      have hin : i < zs.length := by omega
      have d1 : decide ((i : Int) < zs.length) = true := by simp; omega
      obtain ⟨b, off, hA, hb, hcell⟩ := H.out.at_.resolve_left (by omega)
      subst hA
      have c0 := hcell i hin
      have hdr : ((zs.drop i).all fun x => decide (x ∈ bs)) = (decide (zs[i] ∈ bs) && ((zs.drop (i + 1)).all fun x => decide (x ∈ bs))) := by rw [List.drop_eq_getElem_cons hin, List.all_cons]
      have Hdr := Lib.hid hdr
      have t1 : (0 : Int) ≤ (i : Int) := by omega
      have t2 : (i : Int) < (zs.length : Int) := by omega
      clear hcell hdr
      generalize zs[i] = y at *
      have Kh := has_ok capb K.out y
      cases hp : decide (y ∈ bs) with
      | true =>
        rw [hp] at Kh Hdr
        clear hp
        go_wp2_with (go_at_call 36; (with_reducible refine Kh.mono ?_); rintro e w1 ⟨rfl, rfl⟩)
        go_roundg n
        case measure => omega
        case rel => exact ⟨rfl, i + 1, by omega, by go_num, by rw [HI.out, Hdr.out, Bool.true_and]⟩
      | false =>
        rw [hp] at Kh Hdr
        clear hp
        go_wp2_with (go_at_call 36; (with_reducible refine Kh.mono ?_); rintro e w1 ⟨rfl, rfl⟩)
        go_ret
        rw [HI.out, Hdr.out, Bool.false_and]
        exact ⟨rfl, rfl⟩

theorem run_row {w : World} {A : Option Addr} {rows : List (Option Addr × Nat × List Int)} {GA : Option Addr} {given : List Int} (cap capg : Nat) (h : Grid w A rows) (k : Row .i64 w GA given) (hm : ∀ x ∈ given, x ≤ 9223372036854775807) :
    Calls Try.prog 12 #[.slice A rows.length cap, .slice GA given.length capg] w fun e w' => ∃ B d, e = .returned (.tuple #[.slice B (runM (rowsOf rows) given).1.length d, .int .i64 (runM (rowsOf rows) given).2]) ∧ Row .i64 w' B (runM (rowsOf rows) given).1 ∧ (B = none → d = 0) ∧ Below w.heap.size w w' := by
  refine (run_ok cap capg h k hm).mono ?_
  rintro e w' ⟨v, rfl, ho, hb⟩
  obtain ⟨B, d, rfl, h1, h2⟩ := own_row ho rfl (by have := (run_lits (rowsOf rows) given).len; omega)
  exact ⟨B, d, rfl, h1, h2, hb⟩

theorem closes_ok {w : World} {A : Option Addr} {rows : List (Option Addr × Nat × List Int)} {GA : Option Addr} {given : List Int} (cap capg : Nat) (h : Grid w A rows) (k : Row .i64 w GA given) (hm : ∀ x ∈ given, x ≤ 9223372036854775807) :
    Calls Try.prog 19 #[.slice A rows.length cap, .slice GA given.length capg] w fun e w' => e = .returned (.bool ((runM (rowsOf rows) given).2 != -1)) ∧ Below w.heap.size w w' := by
  have K1 := run_row cap capg h k hm
  generalize runM (rowsOf rows) given = r at K1 ⊢
  obtain ⟨r1, r2⟩ := r
  simp only at K1 ⊢
  generalize hq : (r2 != -1) = q
  clear h k hm
  go_enter Try.func19, Try.ntmps19
  go_wp2_with (go_at_call 12; (with_reducible refine K1.mono ?_); rintro e w1 ⟨B, d, rfl, hr1, hn1, hb1⟩; have Hb1 := Lib.hid hb1; clear hr1 hn1 hb1)
  go_ret
  exact ⟨rfl, Hb1.out⟩

def implM (cs : List (List Int)) (given : List Int) (lit : Int) : Bool := (runM cs given).2 != -1 || decide (lit ∈ (runM cs given).1)
theorem implies_ok {w : World} {A : Option Addr} {rows : List (Option Addr × Nat × List Int)} {GA : Option Addr} {given : List Int} (cap capg : Nat) (h : Grid w A rows) (k : Row .i64 w GA given) (hm : ∀ x ∈ given, x ≤ 9223372036854775807) (lit : Int) :
    Calls Try.prog 21 #[.slice A rows.length cap, .slice GA given.length capg, .int .i64 lit] w fun e w' => e = .returned (.bool (implM (rowsOf rows) given lit)) ∧ Below w.heap.size w w' := by
  have K1 := run_row cap capg h k hm
  have hml := (run_lits (rowsOf rows) given).len
  unfold implM
  generalize runM (rowsOf rows) given = r at K1 hml ⊢
  obtain ⟨r1, r2⟩ := r
  simp only at K1 hml ⊢
  clear h k hm
  by_cases h2 : r2 = -1
  · subst h2
    go_enter Try.func21, Try.ntmps21
    go_wp2_with (go_at_call 12; (with_reducible refine K1.mono ?_); rintro e w1 ⟨B, d, rfl, hr1, hn1, hb1⟩; have Hr1 := Lib.hid hr1; have Hb1 := Lib.hid hb1; clear hr1 hn1 hb1)
    go_loopg [21] r1.length (fun g v wx => w1 = wx ∧ ∃ i : Nat, i + g = r1.length ∧ v = .int .i64 i ∧ (lit ∈ r1 ↔ lit ∈ r1.drop i))
    case atStart => exact ⟨rfl, 0, by omega, rfl, Iff.rfl⟩
    case round =>
      obtain ⟨rfl, i, hig, rfl, hinv⟩ := hrel
      have HI := Lib.hid hinv
      clear hinv
      cases gk with
      | zero =>
        have d1 : decide ((i : Int) < r1.length) = false := by simp; omega
        have HN := Lib.hid (show decide (lit ∈ r1) = false from decide_eq_false (fun hx => by have := HI.out.1 hx; rw [List.drop_eq_nil_of_le (by omega)] at this; cases this))
        go_wp2
        go_ret
        rw [HN.out]
        exact ⟨rfl, Hb1.out⟩
      | succ k =>
        have hin : i < r1.length := by omega
        have d1 : decide ((i : Int) < r1.length) = true := by simp; omega
        obtain ⟨b, off, hA, hb, hcell⟩ := Hr1.out.at_.resolve_left (by omega)
        subst hA
        have c0 := hcell i hin
        have Hdr := Lib.hid (mem_drop_cons hin lit)
        clear hcell
        generalize r1[i] = y at *
        by_cases hp : y = lit
        · subst hp
          have HN := Lib.hid (show decide (y ∈ r1) = true from decide_eq_true (HI.out.2 (Hdr.out.2 (.inl rfl))))
          go_wp2
          go_ret
          rw [HN.out]
          exact ⟨rfl, Hb1.out⟩
        · have b1 : (y == lit) = false := beq_eq_false_iff_ne.2 hp
          have Hp := Lib.hid hp
          clear hp
          go_wp2
          go_roundg k
          case measure => omega
          case rel => exact ⟨rfl, i + 1, by omega, by go_num, HI.out.trans (Hdr.out.trans ⟨fun h => h.resolve_left Hp.out, .inr⟩)⟩
  · have b2 : (r2 != -1) = true := by simpa using h2
    rw [b2, Bool.true_or]
    clear h2
    go_enter Try.func21, Try.ntmps21
    go_wp2_with (go_at_call 12; (with_reducible refine K1.mono ?_); rintro e w1 ⟨B, d, rfl, hr1, hn1, hb1⟩; have Hb1 := Lib.hid hb1; clear hr1 hn1 hb1)
    go_ret
    exact ⟨rfl, Hb1.out⟩
end Go.Proofs.Ytfkjojogkdlcgaa

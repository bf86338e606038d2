/- The reference's plain, first. -/
import Derived.Test.YtfkjojogkdlcgaaUnT
namespace Go.Proofs.Ytfkjojogkdlcgaa
open Go.RowKit Go.Lib

theorem ref_plain (c : List Int) : makeM (c.filter fun x => !wideM x) = plainM c := by
  unfold plainM
  refine ord_ext (make_ord _) ((make_ord _).filter _) fun x => ?_
  rw [mem_make, List.mem_filter, List.mem_filter, mem_make]
  constructor
  · rintro ⟨⟨h1, h2⟩, h3⟩; exact ⟨⟨h1, h3⟩, h2⟩
  · rintro ⟨⟨h1, h3⟩, h2⟩; exact ⟨⟨h1, h2⟩, h3⟩

/-- A row of ints in a block of ints. -/
def IRow (w : World) (r : Option Addr × Nat × List Int) : Prop := Row .i64 w r.1 r.2.2 ∧ (r.1 = none → r.2.1 = 0) ∧ ∀ a, r.1 = some a → ∃ cs, Blk w a.block 3 cs
theorem IRow.grown {w w' : World} {base n : Nat} {v : Value} {xs : List Value} {r : Option Addr × Nat × List Int} (h : IRow w r) (ho : w.ownsRow base 23 1 v n xs) (hg : w.grownBy w' v.ownBlock) : IRow w' r := by
  obtain ⟨h1, h2, h3⟩ := h
  refine ⟨⟨h1.len, ?_⟩, h2, fun a ha => ?_⟩
  · rcases h1.at_ with h0 | ⟨b, off, e, hb, hc⟩
    · exact .inl h0
    · obtain ⟨cs, hcs⟩ := h3 _ e
      have hne : some b ≠ v.ownBlock := fun he => own_blk_ne ho hcs (by decide) he.symm
      refine .inr ⟨b, off, e, Nat.lt_of_lt_of_le hb hg.size, fun i hi => ?_⟩
      rw [World.cell?_of_block (w := w) (hg.block b hb hne)]
      exact hc i hi
  · obtain ⟨cs, hcs⟩ := h3 a ha
    exact ⟨cs, hcs.grown hg fun he => own_blk_ne ho hcs (by decide) he.symm⟩
theorem IRow.below {w w' : World} {r : Option Addr × Nat × List Int} (h : IRow w r) (hb : Below w.heap.size w w') : IRow w' r :=
  ⟨h.1.below hb, h.2.1, fun a ha => by obtain ⟨cs, hcs⟩ := h.2.2 a ha; exact ⟨cs, hcs.below hb hcs.lt⟩⟩
theorem own_irow {w : World} {base n : Nat} {v : Value} {zs : List Int} (h : w.ownsRow base 3 1 v n (zs.map (Value.int .i64))) (hn : n = zs.length) (hl : zs.length ≤ 1000000) :
    ∃ B d, v = .slice B zs.length d ∧ IRow w (B, d, zs) := by
  rcases own_cases h hn with ⟨rfl, h0⟩ | ⟨g, c, rfl, hown, _, _⟩
  · refine ⟨none, 0, by rw [h0]; rfl, ?_, fun _ => rfl, fun a ha => by cases ha⟩
    rw [h0]
    exact row_none none
  · obtain ⟨cur, hb, hh, _⟩ := hown.block
    exact ⟨_, c, rfl, hown.row hl, (fun h => by cases h), fun a ha => by injection ha with ha; subst ha; exact ⟨cur, hh⟩⟩

def firstM (val : Int → Int) (st : Int) : List (List Int) → Int → Int × Int
  | [], _ => (-1, -1)
  | c :: r, i => if (stF val c 0 (-1)).1 = st then (i, (stF val c 0 (-1)).2) else firstM val st r (i + 1)
theorem first_wrong (val : Int → Int) : ∀ (cs : List (List Int)) (i u l : Int), (firstM val 1 cs i).1 = (lookF val cs i u l).1
  | [], _, _, _ => rfl
  | c :: r, i, u, l => by
    unfold firstM lookF
    by_cases h1 : (stF val c 0 (-1)).1 = 1
    · rw [if_pos h1, if_pos h1]
    · rw [if_neg h1, if_neg h1]
      split
      · split
        · exact first_wrong val r _ _ _
        · exact first_wrong val r _ _ _
      · exact first_wrong val r _ _ _
theorem first_index (val : Int → Int) (st : Int) : ∀ (cs : List (List Int)) (i : Int), 0 ≤ i → (firstM val st cs i).1 = -1 ∨ 0 ≤ (firstM val st cs i).1
  | [], _, _ => .inl rfl
  | c :: r, i, hi => by
    unfold firstM
    split
    · exact .inr hi
    · exact first_index val st r (i + 1) (by omega)
theorem first_unit (val : Int → Int) : ∀ (cs : List (List Int)) (i l : Int), 0 ≤ i → (lookF val cs i (-1) l).1 = -1 → (lookF val cs i (-1) l).2 = if (firstM val 2 cs i).1 = -1 then (-1, l) else firstM val 2 cs i
  | [], _, _, _, _ => rfl
  | c :: r, i, l, hi, h => by
    unfold lookF at h ⊢
    unfold firstM
    by_cases h1 : (stF val c 0 (-1)).1 = 1
    · rw [if_pos h1] at h
      have : i = -1 := h
      omega
    · rw [if_neg h1] at h ⊢
      by_cases h2 : (stF val c 0 (-1)).1 = 2
      · rw [if_pos h2, if_pos rfl] at h ⊢
        have k := look_unit r (i + 1) i (stF val c 0 (-1)).2 (by omega) h
        rw [if_neg (by omega)] at k
        rw [k, if_pos h2, if_neg (by show ¬ i = -1; omega)]
      · rw [if_neg h2] at h ⊢
        rw [if_neg h2]
        exact first_unit val r (i + 1) l (by omega) h

theorem first_ok {w : World} {A B : Option Addr} {rows : List (Option Addr × Nat × List Int)} {vals : List Int} {val : Int → Int} (cap cap2 : Nat) (st : Int) (h : Grid w A rows) (hv : Row .i8 w B vals) (hval : ∀ r ∈ rows, ∀ x ∈ r.2.2, valM vals x = val x) (hm : ∀ r ∈ rows, ∀ x ∈ r.2.2, x ≤ 9223372036854775807) :
    Calls Try.prog 38 #[.slice A rows.length cap, .slice B vals.length cap2, .int .i8 st] w fun e w' => e = .returned (.tuple #[.int .i64 (firstM val st (rowsOf rows) 0).1, .int .i64 (firstM val st (rowsOf rows) 0).2]) ∧ w = w' := by
  have hlen := h.len
  have H := Lib.hid h
  have Hval := Lib.hid hval
  have Hm := Lib.hid hm
  have Hv := Lib.hid hv
  clear h hm hv hval
  go_enter Try.func38, Try.ntmps38
  go_wp2
  go_loopg [8] rows.length (fun g v wx => w = wx ∧ ∃ i : Nat, i + g = rows.length ∧ v = .int .i64 i ∧ firstM val st ((rowsOf rows).drop i) i = firstM val st (rowsOf rows) 0)
  case atStart => exact ⟨rfl, 0, by omega, rfl, rfl⟩
  case round =>
    obtain ⟨rfl, i, hig, rfl, hinv⟩ := hrel
    have HI := Lib.hid hinv
    clear hinv
    cases gk with
    | zero =>
      have d1 : decide ((i : Int) < rows.length) = false := by simp; omega
      have HN := Lib.hid (show (rowsOf rows).drop i = [] from List.drop_eq_nil_of_le (by unfold rowsOf; rw [List.length_map]; omega))
      go_wp2
      go_ret2
      rw [← HI.out, HN.out]
      exact ⟨rfl, rfl⟩
    | succ k =>
      have hin : i < rows.length := by omega
      have d1 : decide ((i : Int) < rows.length) = true := by simp; omega
      obtain ⟨b, off, hA, hb, hcell⟩ := H.out.at_.resolve_left (by omega)
      subst hA
      obtain ⟨c0, hrow, _⟩ := hcell i hin
      have hx := Hm.out rows[i] (List.getElem_mem hin)
      have hvx := Hval.out rows[i] (List.getElem_mem hin)
      have hdr : (rowsOf rows).drop i = rows[i].2.2 :: (rowsOf rows).drop (i + 1) := by
        have hi2 : i < (rowsOf rows).length := by unfold rowsOf; rw [List.length_map]; exact hin
        rw [List.drop_eq_getElem_cons hi2]
        simp [rowsOf]
      have Hdr := Lib.hid hdr
      have t1 : (0 : Int) ≤ (i : Int) := by omega
      have t2 : (i : Int) < (rows.length : Int) := by omega
      clear hcell hdr
      generalize rows[i].1 = xa at *
      generalize rows[i].2.1 = xc at *
      generalize rows[i].2.2 = c at *
      have K := state15_ok xc cap2 hrow Hv.out hx
      rw [st_rep c 0 (-1) hvx] at K
      have hstep : firstM val st (c :: (rowsOf rows).drop (i + 1)) i = (if (stF val c 0 (-1)).1 = st then ((i : Int), (stF val c 0 (-1)).2) else firstM val st ((rowsOf rows).drop (i + 1)) (i + 1)) := by
        conv => lhs; unfold firstM
      generalize stF val c 0 (-1) = s at K hstep
      obtain ⟨p1, p2⟩ := s
      have Hstep := Lib.hid hstep
      clear hx hvx hrow hstep
      simp only at K
      by_cases h1 : p1 = st
      · have b1 : (p1 == st) = true := by simp [h1]
        have H1 := Lib.hid h1
        clear h1
        go_wp2_with (go_at_call 33; (with_reducible refine K.mono ?_); rintro e w1 ⟨rfl, rfl⟩)
        go_ret2
        rw [← HI.out, Hdr.out, Hstep.out, if_pos H1.out]
        exact ⟨rfl, rfl⟩
      · have b1 : (p1 == st) = false := beq_eq_false_iff_ne.2 h1
        have H1 := Lib.hid h1
        clear h1
        go_wp2_with (go_at_call 33; (with_reducible refine K.mono ?_); rintro e w1 ⟨rfl, rfl⟩)
        go_roundg k
        case measure => omega
        case rel => exact ⟨rfl, i + 1, by omega, by go_num, by rw [← HI.out, Hdr.out, Hstep.out, if_neg H1.out]; rfl⟩
end Go.Proofs.Ytfkjojogkdlcgaa

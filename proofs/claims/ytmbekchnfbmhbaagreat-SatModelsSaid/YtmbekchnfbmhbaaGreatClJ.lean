/- Within. -/
import Derived.Test.YtmbekchnfbmhbaaGreatClF
namespace Go.Proofs.YtmbekchnfbmhbaaGreat
open Go.RowKit

def outP (bs : List Int) (x : Int) : Bool := !decide (x ∈ bs)

theorem within1_ok {w : World} {AB : Option Addr} {bs : List Int} (capb g : Nat) (h : Row .i64 w AB bs) (hg : w.cell? ⟨g, 0, none⟩ = some (.slice AB bs.length capb)) (x : Int) :
    Calls Tryz.prog 93 #[.int .i64 x, .pointer (some ⟨g, 0, none⟩)] w fun e w' => e = .returned (.bool (outP bs x)) ∧ w = w' := by
  unfold outP
  generalize hb : decide (x ∈ bs) = b
  have HB := Lib.hid hb
  have H := Lib.hid h
  clear h hb
  go_enter Tryz.func93, Tryz.ntmps93
  go_wp2_with (go_at_call 94; refine (contains_ok capb H.out _).mono ?_; rintro e w1 ⟨rfl, rfl⟩; rw [HB.out])
  go_ret
  exact ⟨rfl, rfl⟩

theorem indexf_within {w : World} {A : Option Addr} {zs : List Int} (cap g : Nat) (h : Row .i64 w A zs) {AB : Option Addr} {bs : List Int} (capb : Nat) (hb0 : Row .i64 w AB bs) (hg : w.cell? ⟨g, 0, none⟩ = some (.slice AB bs.length capb)) :
    Calls Tryz.prog 48 #[.slice A zs.length cap, .func (.func 93) #[] #[.pointer (some ⟨g, 0, none⟩)]] w fun e w' => e = .returned (.int .i64 (idxF (outP bs) zs 0)) ∧ w = w' := by
  have hlen := h.len
  have H := Lib.hid h
  have Hg := Lib.hid hg
  have Hb0 := Lib.hid hb0
  clear h hg hb0
  go_enter Tryz.func48, Tryz.ntmps48
  go_wp2
  go_loopg [8] zs.length (fun g v wx => w = wx ∧ ∃ i : Nat, i + g = zs.length ∧ v = .int .i64 i ∧ idxF (outP bs) (zs.drop i) i = idxF (outP bs) zs 0)
  case atStart => exact ⟨rfl, 0, by omega, rfl, rfl⟩
  case round =>
    obtain ⟨rfl, i, hig, rfl, hinv⟩ := hrel
    have HI := Lib.hid hinv
    clear hinv
    cases gk with
    | zero =>
      have d1 : decide ((i : Int) < zs.length) = false := by simp; omega
      have HN := Lib.hid (show zs.drop i = [] from List.drop_eq_nil_of_le (by omega))
      go_wp2
      go_ret
      rw [← HI.out, HN.out]
      exact ⟨rfl, rfl⟩
    | succ k =>
      have hin : i < zs.length := by omega
      have d1 : decide ((i : Int) < zs.length) = true := by simp; omega
      obtain ⟨b, off, hA, hb, hcell⟩ := H.out.at_.resolve_left (by omega)
      subst hA
      have c0 := hcell i hin
      have Hdr := Lib.hid (show zs.drop i = zs[i] :: zs.drop (i + 1) from List.drop_eq_getElem_cons hin)
      clear hcell
      generalize zs[i] = x at *
      cases hp : outP bs x with
      | true =>
        have Hp := Lib.hid hp
        clear hp
        go_wp2_with (go_at_call 93; refine (within1_ok capb g Hb0.out Hg.out x).mono ?_; rintro e w1 ⟨rfl, rfl⟩; rw [Hp.out])
        go_ret
        rw [← HI.out, Hdr.out]
        unfold idxF
        rw [if_pos Hp.out]
        exact ⟨rfl, rfl⟩
      | false =>
        have Hp := Lib.hid hp
        clear hp
        go_wp2_with (go_at_call 93; refine (within1_ok capb g Hb0.out Hg.out x).mono ?_; rintro e w1 ⟨rfl, rfl⟩; rw [Hp.out])
        go_roundg k
        case measure => omega
        case rel => exact ⟨rfl, i + 1, by omega, by go_num, by rw [← HI.out, Hdr.out]; conv => rhs; unfold idxF; rw [if_neg (by rw [Hp.out]; decide)]⟩

theorem containsf_within {w : World} {A : Option Addr} {zs : List Int} (cap g : Nat) (h : Row .i64 w A zs) {AB : Option Addr} {bs : List Int} (capb : Nat) (hb0 : Row .i64 w AB bs) (hg : w.cell? ⟨g, 0, none⟩ = some (.slice AB bs.length capb)) :
    Calls Tryz.prog 29 #[.slice A zs.length cap, .func (.func 93) #[] #[.pointer (some ⟨g, 0, none⟩)]] w fun e w' => e = .returned (.bool (zs.any (outP bs))) ∧ w = w' := by
  rw [← idxF_any (outP bs) zs 0]
  have H := Lib.hid h
  have Hg := Lib.hid hg
  have Hb0 := Lib.hid hb0
  clear h hg hb0
  go_enter Tryz.func29, Tryz.ntmps29
  go_wp2_with (go_at_call 48; refine (indexf_within cap g H.out capb Hb0.out Hg.out).mono ?_; rintro e w1 ⟨rfl, rfl⟩)
  go_ret
  exact ⟨rfl, rfl⟩


theorem within_ok {w : World} {A AB : Option Addr} {zs bs : List Int} (cap capb : Nat) (h : Row .i64 w A zs) (hb0 : Row .i64 w AB bs) :
    Calls Tryz.prog 79 #[.slice A zs.length cap, .slice AB bs.length capb] w fun e w' => e = .returned (.bool (!zs.any (outP bs))) ∧ Below w.heap.size w w' := by
  have hb : Below w.heap.size w (w.alloc (.cells #[.slice AB bs.length capb] 23)) := (Below.refl _ w).alloc (Nat.le_refl _) _
  have H := Lib.hid (h.below hb)
  have HB := Lib.hid (hb0.below hb)
  have Hb := Lib.hid hb
  have Hg := Lib.hid (show (w.alloc (.cells #[.slice AB bs.length capb] 23)).cell? ⟨w.heap.size, 0, none⟩ = some (.slice AB bs.length capb) from (Blk.new w _ _).cell 0)
  generalize hq : zs.any (outP bs) = q
  have Hq := Lib.hid hq
  clear h hb hb0 hq
  go_enter Tryz.func79, Tryz.ntmps79
  go_wp2_with (go_at_call 29; refine (containsf_within cap w.heap.size H.out capb HB.out Hg.out).mono ?_; rintro e w1 ⟨rfl, rfl⟩; rw [Hq.out])
  go_ret
  exact ⟨rfl, Hb.out⟩
end Go.Proofs.YtmbekchnfbmhbaaGreat

/- Equal, Is. -/
namespace Go.Proofs.YtmbekchnfbmhbaaGreat
open Go.RowKit Go.Lib

theorem OwnI.row {w : World} {base g cap : Nat} {zs : List Int} (h : OwnI w base g cap zs) (hl : zs.length ≤ 1000000) : Row .i64 w (some ⟨g, 0, none⟩) zs := by
  refine ⟨hl, .inr ⟨g, 0, rfl, own_lt h, fun i hi => ?_⟩⟩
  rw [Nat.zero_add, h.cellAt i (by omega), List.getElem?_map, List.getElem?_eq_getElem hi]
  rfl
theorem Row.cells {w : World} {b off : Nat} {zs : List Int} (hc : ∀ i (h : i < zs.length), w.cell? ⟨b, off + i, none⟩ = some (.int .i64 zs[i])) : ∀ j, j < zs.length → w.cell? ⟨b, off + j, none⟩ = some (.int .i64 (zs.getD j 0)) := fun j hj => by
  rw [hc j hj, List.getD_eq_getElem?_getD, List.getElem?_eq_getElem hj]; rfl

theorem equal_ok {w : World} {A B : Option Addr} {xs ys : List Int} (c d : Nat) (h : Row .i64 w A xs) (k : Row .i64 w B ys) :
    Calls Tryz.prog 46 #[.slice A xs.length c, .slice B ys.length d] w fun e w' => e = .returned (.bool (xs == ys)) ∧ ∃ q, w' = w.drewN q := by
  have hl := h.len
  have kl := k.len
  by_cases hne : xs.length = ys.length
  · rcases h.at_ with h0 | ⟨b, off, rfl, _, hc⟩
    · have hx : xs = [] := List.eq_nil_of_length_eq_zero h0
      have hy : ys = [] := List.eq_nil_of_length_eq_zero (by omega)
      subst hx hy
      exact (Tryz.slices_Equal_int_empty A B c 0 d w (by omega)).mono fun e w' ⟨h1, h2⟩ => ⟨by rw [h1]; rfl, 0, h2⟩
    · rcases k.at_ with k0 | ⟨b2, off2, rfl, _, kc⟩
      · have hx : xs = [] := List.eq_nil_of_length_eq_zero (by omega)
        have hy : ys = [] := List.eq_nil_of_length_eq_zero k0
        subst hx hy
        exact (Tryz.slices_Equal_int_empty _ B c 0 d w (by omega)).mono fun e w' ⟨h1, h2⟩ => ⟨by rw [h1]; rfl, 0, h2⟩
      · refine (Tryz.slices_Equal_int b off xs.length c b2 off2 ys.length d xs ys w (Nat.le_refl _) (Nat.le_refl _) (by omega) (by omega) (Row.cells hc) (Row.cells kc)).mono fun e w' ⟨h1, h2⟩ => ⟨?_, h2⟩
        rw [h1, List.take_of_length_le (Nat.le_refl _), List.take_of_length_le (Nat.le_refl _)]
  · refine (Tryz.slices_Equal_int_lens A B xs.length c ys.length d w hne).mono fun e w' ⟨h1, h2⟩ => ⟨?_, 0, h2⟩
    have : (xs == ys) = false := beq_eq_false_iff_ne.2 fun h => hne (by rw [h])
    rw [h1, this]

theorem makeM_len (zs : List Int) : (makeM zs).length ≤ zs.length := by
  unfold makeM
  refine Nat.le_trans (compact_len _) ?_
  rw [List.length_mergeSort]
  exact List.length_filter_le _ _

/-- Make, its row as it lies in memory. -/
theorem make_row {w : World} {A : Option Addr} {zs : List Int} (cap : Nat) (h : Row .i64 w A zs) (hn : A = none → cap = 0) :
    Calls Tryz.prog 47 #[.slice A zs.length cap] w fun e w' => ∃ B d, e = .returned (.slice B (makeM zs).length d) ∧ Row .i64 w' B (makeM zs) ∧ (B = none → d = 0) ∧ Below w.heap.size w w' := by
  have hl := h.len
  refine (make_ok cap h hn).mono ?_
  rintro e w' ⟨v, rfl, ho, hb⟩
  have hm := makeM_len zs
  rcases own_cases ho rfl with ⟨rfl, h0⟩ | ⟨g, c, rfl, hown, _, _⟩
  · refine ⟨none, 0, by rw [h0]; rfl, ?_, fun _ => rfl, hb⟩
    rw [h0]
    exact ⟨by simp, .inl rfl⟩
  · exact ⟨_, c, rfl, hown.row (by omega), (fun h => by cases h), hb⟩

theorem is_ok {w : World} {A : Option Addr} {zs : List Int} (cap : Nat) (h : Row .i64 w A zs) (hn : A = none → cap = 0) :
    Calls Tryz.prog 28 #[.slice A zs.length cap] w fun e w' => e = .returned (.bool (zs == makeM zs)) ∧ Below w.heap.size w w' := by
  generalize hq : (zs == makeM zs) = q
  have Hq := Lib.hid hq
  have H := Lib.hid h
  have Hn := Lib.hid hn
  clear h hn hq
  go_enter Tryz.func28, Tryz.ntmps28
  go_wp2_with (first
    | (go_at_call 47; refine (make_row cap H.out Hn.out).mono ?_; rintro e w1 ⟨B, d, rfl, hr1, _, hb1⟩; have Hr1 := Lib.hid hr1; have Hb1 := Lib.hid hb1; clear hr1 hb1)
    | (go_at_call 46; refine (equal_ok cap d (H.out.below Hb1.out) Hr1.out).mono ?_; rintro e w2 ⟨rfl, n2, rfl⟩; rw [Hq.out]))
  go_ret
  exact ⟨rfl, below_drewN Hb1.out n2⟩
end Go.Proofs.YtmbekchnfbmhbaaGreat

/- Clone, DeleteFunc with a captured literal, Resolve. -/
namespace Go.Proofs.YtmbekchnfbmhbaaGreat
open Go.RowKit Go.Lib Go.Sort

theorem clone_ok {w : World} {A : Option Addr} {zs : List Int} (cap : Nat) (h : Row .i64 w A zs) :
    Calls Tryz.prog 112 #[.slice A zs.length cap] w fun e w' => ∃ v, e = .returned v ∧ w'.ownsRow w.heap.size 3 1 v zs.length (zs.map (Value.int .i64)) ∧ Below w.heap.size w w' := by
  have hl := h.len
  rcases h.at_ with h0 | ⟨b, off, rfl, _, hc⟩
  · have hz : zs = [] := List.eq_nil_of_length_eq_zero h0
    subst hz
    cases A with
    | none => exact (Tryz.slices_Clone_int_nil 0 cap w).mono fun e w' ⟨h1, h2⟩ => ⟨_, h1, World.ownsRow_nil _ _ _ _, by rw [h2]; exact Below.refl _ _⟩
    | some a => exact (Tryz.slices_Clone_int_zero a cap w).mono fun e w' ⟨v, h1, h2, _, h3⟩ => ⟨v, h1, h2, h3⟩
  · refine (Tryz.slices_Clone_int b off zs.length cap zs w (Nat.le_refl _) (by omega) (Row.cells hc)).mono fun e w' ⟨v, h1, h2, _, h3⟩ => ⟨v, h1, ?_, h3⟩
    rw [List.take_of_length_le (Nat.le_refl _)] at h2
    exact h2

theorem eqc_gives (lit x : Int) (B : Nat) (W : World) (hc : W.cell? ⟨B, 0, none⟩ = some (.int .i64 lit)) :
    FnGives Tryz.prog 113 #[.pointer (some ⟨B, 0, none⟩)] #[.int .i64 x] (.bool (x == lit)) W := by
  show Calls Tryz.prog 113 #[.int .i64 x, .pointer (some ⟨B, 0, none⟩)] W _
  generalize hq : (x == lit) = q
  go_enter Tryz.func113, Tryz.ntmps113
  go_wp2
  go_ret
  exact ⟨rfl, 0, rfl⟩

/-- All but a literal. -/
def woM (lit : Int) (zs : List Int) : List Int := zs.filter fun x => !(x == lit)

theorem delete_lit {w : World} {base g cap B : Nat} {zs : List Int} {lit : Int} (h : OwnI w base g cap zs) (hsz : zs.length ≤ 9223372036854775807) (hB : B < w.heap.size) (hne : B ≠ g) (hcell : w.cell? ⟨B, 0, none⟩ = some (.int .i64 lit)) :
    Calls Tryz.prog 72 #[.slice (some ⟨g, 0, none⟩) zs.length cap, .func (.func 113) #[] #[.pointer (some ⟨B, 0, none⟩)]] w fun e w' => e = .returned (.slice (some ⟨g, 0, none⟩) (woM lit zs).length cap) ∧ OwnI w' base g cap (woM lit zs) ∧ w.grownBy w' (some g) := by
  obtain ⟨cur, hb, hh, hc, hM, hs, ht⟩ := h.block
  have eg : ∀ args w, (callFunc 113 args).run Tryz.prog w = .ok (.enter 113 args) w := enters_of Tryz.func113 (by kernel_rfl) rfl
  have h0 := Tryz.slices_DeleteFunc_int (fun x => x == lit) 113 #[.pointer (some ⟨B, 0, none⟩)] eg g 0 cap zs.toArray w (fun W x hb => eqc_gives lit x B W ((hb.cell (p := ⟨B, 0, none⟩) hB).trans hcell))
    (fun n os dk x _ => eqc_gives lit x B _ (by
      unfold sortWorld
      rw [cell?_grow _ _ _ (by show B < (putRow _ _ _ _ _).heap.size; rw [size_putRow]; exact hB), cell?_putRow_other _ _ g 0 _ _ (Or.inl hne)]
      exact hcell)) (holds_of_blockI hh ht) (by simpa using hsz) (by simpa using hc)
  simp only [List.size_toArray] at h0
  refine h0.mono ?_
  rintro e w' ⟨rfl, k, rfl⟩
  have hl : (woM lit zs).length ≤ zs.length := List.length_filter_le _ _
  have h1 := ownsRow_sortedI (n := k) (os := #[]) (ss := zs) (ts := woM lit zs ++ List.replicate (zs.length - (woM lit zs).length) 0) (by rw [List.length_append, List.length_replicate]; omega) hb hh hc hM hs
  have h2 := grownBy_sortedI (w := w) (g := g) (n := k) (os := #[]) (woM lit zs ++ List.replicate (zs.length - (woM lit zs).length) 0).toArray
  rw [grow_empty] at h1 h2
  exact ⟨rfl, OwnI.cut _ h1 hl, h2⟩

theorem own_row {w : World} {base n : Nat} {v : Value} {zs : List Int} (h : w.ownsRow base 3 1 v n (zs.map (Value.int .i64))) (hn : n = zs.length) (hl : zs.length ≤ 1000000) :
    ∃ B d, v = .slice B zs.length d ∧ Row .i64 w B zs ∧ (B = none → d = 0) := by
  rcases own_cases h hn with ⟨rfl, h0⟩ | ⟨g, c, rfl, hown, _, _⟩
  · refine ⟨none, 0, by rw [h0]; rfl, ?_, fun _ => rfl⟩
    rw [h0]
    exact ⟨by simp, .inl rfl⟩
  · exact ⟨_, c, rfl, hown.row hl, (fun h => by cases h)⟩

theorem own_rowB {w : World} {base n : Nat} {v : Value} {zs : List Int} (h : w.ownsRow base 3 1 v n (zs.map (Value.int .i64))) (hn : n = zs.length) (hl : zs.length ≤ 1000000) :
    ∃ B d, v = .slice B zs.length d ∧ Row .i64 w B zs ∧ (B = none → d = 0) ∧ ∀ a, B = some a → base ≤ a.block := by
  rcases own_cases h hn with ⟨rfl, h0⟩ | ⟨g, c, rfl, hown, hg, _⟩
  · refine ⟨none, 0, by rw [h0]; rfl, ?_, fun _ => rfl, fun a ha => by cases ha⟩
    rw [h0]
    exact ⟨by simp, .inl rfl⟩
  · exact ⟨_, c, rfl, hown.row hl, (fun h => by cases h), fun a ha => by injection ha with ha; subst ha; exact hg⟩

theorem delete_any {w : World} {base B : Nat} {v : Value} {zs : List Int} {lit : Int} (ho : w.ownsRow base 3 1 v zs.length (zs.map (Value.int .i64))) (hsz : zs.length ≤ 9223372036854775807) (hbs : base ≤ w.heap.size) (hB : B < base) (hcell : w.cell? ⟨B, 0, none⟩ = some (.int .i64 lit)) :
    Calls Tryz.prog 72 #[v, .func (.func 113) #[] #[.pointer (some ⟨B, 0, none⟩)]] w fun e w' => ∃ v', e = .returned v' ∧ w'.ownsRow base 3 1 v' (woM lit zs).length ((woM lit zs).map (Value.int .i64)) ∧ Below base w w' := by
  rcases own_cases ho rfl with ⟨rfl, h0⟩ | ⟨g, c, rfl, hown, hb, _⟩
  · refine (delete_nil _ _).mono ?_
    rintro e w' ⟨rfl, rfl⟩
    rw [h0]
    exact ⟨_, rfl, World.ownsRow_nil _ _ _ _, Below.refl _ _⟩
  · refine (delete_lit hown hsz (by omega) (by omega) hcell).mono ?_
    rintro e w' ⟨rfl, h1, h2⟩
    exact ⟨_, rfl, h1, below_grow (Below.refl _ _) h2 hbs hb⟩

theorem woM_len (lit : Int) (zs : List Int) : (woM lit zs).length ≤ zs.length := List.length_filter_le _ _

set_option maxHeartbeats 1000000 in
theorem without_own {w : World} {A : Option Addr} {zs : List Int} (cap : Nat) (lit : Int) (h : Row .i64 w A zs) :
    Calls Tryz.prog 111 #[.slice A zs.length cap, .int .i64 lit] w fun e w' => ∃ v, e = .returned v ∧ w'.ownsRow (w.heap.size + 1) 3 1 v (woM lit zs).length ((woM lit zs).map (Value.int .i64)) ∧ Below w.heap.size w w' := by
  have hlen := h.len
  have hb : Below w.heap.size w (w.alloc (.cells #[.int .i64 lit] 3)) := (Below.refl _ w).alloc (Nat.le_refl _) _
  have H := Lib.hid (h.below hb)
  have Hb := Lib.hid hb
  have Hg := Lib.hid (show (w.alloc (.cells #[.int .i64 lit] 3)).cell? ⟨w.heap.size, 0, none⟩ = some (.int .i64 lit) from (Blk.new w _ _).cell 0)
  have Hsz := Lib.hid (show (w.alloc (.cells #[.int .i64 lit] 3)).heap.size = w.heap.size + 1 by simp)
  generalize hq : woM lit zs = q
  have Hq := Lib.hid hq
  clear h hb hq
  go_enter Tryz.func111, Tryz.ntmps111
  go_wp2_with (first
    | (go_at_call 112; refine (clone_ok cap H.out).mono ?_; rintro e w1 ⟨v1, rfl, ho1, hb1⟩; rw [Hsz.out] at ho1 hb1; have Ho1 := Lib.hid ho1; have Hb1 := Lib.hid hb1; clear ho1 hb1)
    | (go_at_call 72; refine (delete_any Ho1.out (by omega) (by rw [← Hsz.out]; rw [Hsz.out]; exact Hsz.out ▸ Hb1.out.size) (Nat.lt_succ_self _) ((Hb1.out.cell (p := ⟨w.heap.size, 0, none⟩) (Nat.lt_succ_self _)).trans Hg.out)).mono ?_; rintro e w2 ⟨v2, rfl, ho2, hb2⟩; rw [Hq.out] at ho2; have Ho2 := Lib.hid ho2; have Hb2 := Lib.hid hb2; clear ho2 hb2))
  go_ret
  exact ⟨_, rfl, Ho2.out, Hb.out.trans ((Hb1.out.mono (Nat.le_succ _)).trans (Hb2.out.mono (Nat.le_succ _)))⟩

theorem without_ok {w : World} {A : Option Addr} {zs : List Int} (cap : Nat) (lit : Int) (h : Row .i64 w A zs) :
    Calls Tryz.prog 111 #[.slice A zs.length cap, .int .i64 lit] w fun e w' => ∃ B d, e = .returned (.slice B (woM lit zs).length d) ∧ Row .i64 w' B (woM lit zs) ∧ (B = none → d = 0) ∧ Below w.heap.size w w' := by
  have hl := h.len
  have hw := woM_len lit zs
  refine (without_own cap lit h).mono ?_
  rintro e w' ⟨v, rfl, ho, hb⟩
  obtain ⟨B, d, rfl, h1, h2⟩ := own_row ho rfl (by omega)
  exact ⟨B, d, rfl, h1, h2, hb⟩

/-- Can two clauses be resolved on a literal? -/
def canM (a b : List Int) (lit : Int) : Bool := decide (0 ≤ lit) && (decide (lit ∈ a) && decide (negM lit ∈ b))

set_option maxHeartbeats 1000000 in
theorem resolve_no {w : World} {A B : Option Addr} {xs ys : List Int} (cap capb : Nat) (lit : Int) (hlit : lit ≤ 9223372036854775807) (h : Row .i64 w A xs) (k : Row .i64 w B ys) (hc : canM xs ys lit = false) :
    Calls Tryz.prog 96 #[.slice A xs.length cap, .slice B ys.length capb, .int .i64 lit] w fun e w' => e = .returned (.tuple #[.slice none 0 0, .bool false]) ∧ w = w' := by
  have H := Lib.hid h
  have K := Lib.hid k
  clear h k
  by_cases h0 : 0 ≤ lit
  · have d0 : decide (lit < (0 : Int)) = false := decide_eq_false (by omega)
    have hn : bits .xor .i64 lit 1 = negM lit := i64_xor_one lit h0 (by omega)
    have Hn := Lib.hid hn
    by_cases h1 : lit ∈ xs
    · have h2 : negM lit ∉ ys := by
        intro h2
        have : canM xs ys lit = true := by unfold canM; simp [h0, h1, h2]
        rw [this] at hc
        cases hc
      have H1 := Lib.hid (decide_eq_true h1)
      have H2 := Lib.hid (decide_eq_false h2)
      clear h1 h2 hc h0
      go_enter Tryz.func96, Tryz.ntmps96
      go_wp2_with (first
        | (go_at_call 94; (with_reducible refine (contains_ok cap H.out lit).mono ?_); rintro e w1 ⟨rfl, rfl⟩; rw [H1.out])
        | (go_at_call 94; (refine (contains_ok capb K.out (negM lit)).mono ?_); rintro e w1 ⟨rfl, rfl⟩; rw [H2.out]))
      go_ret2
      exact ⟨rfl, rfl⟩
    · have H1 := Lib.hid (decide_eq_false h1)
      clear h1 hc h0
      go_enter Tryz.func96, Tryz.ntmps96
      go_wp2_with (first
        | (go_at_call 94; (with_reducible refine (contains_ok cap H.out lit).mono ?_); rintro e w1 ⟨rfl, rfl⟩; rw [H1.out]))
      go_ret2
      exact ⟨rfl, rfl⟩
  · have d0 : decide (lit < (0 : Int)) = true := decide_eq_true (by omega)
    clear hc h0
    go_enter Tryz.func96, Tryz.ntmps96
    go_wp2
    go_ret2
    exact ⟨rfl, rfl⟩

/-- The resolvent. -/
def resM (a b : List Int) (lit : Int) : List Int := makeM (woM lit a ++ woM (negM lit) b)

theorem rows_two {w : World} {A B : Option Addr} {xs ys : List Int} {c d : Nat} (h : Row .i64 w A xs) (k : Row .i64 w B ys) (hn : A = none → c = 0) (kn : B = none → d = 0) :
    RowsAt (w.alloc (.cells #[.slice A xs.length c, .slice B ys.length d] 23)) w.heap.size [(A, c, xs), (B, d, ys)] := by
  have hb : Below w.heap.size w (w.alloc (.cells #[.slice A xs.length c, .slice B ys.length d] 23)) := (Below.refl _ w).alloc (Nat.le_refl _) _
  refine ⟨by simp, fun i hi => ?_⟩
  have h1 := (Blk.new w 23 #[.slice A xs.length c, .slice B ys.length d]).cell i
  rw [h1]
  match i, hi with
  | 0, _ => exact ⟨rfl, h.below hb, hn⟩
  | 1, _ => exact ⟨rfl, k.below hb, kn⟩

set_option maxHeartbeats 2000000 in
theorem resolve_yes {w : World} {A B : Option Addr} {xs ys : List Int} (cap capb : Nat) (lit : Int) (hlit : lit ≤ 9223372036854775807) (h : Row .i64 w A xs) (k : Row .i64 w B ys) (hc : canM xs ys lit = true) (hsm : xs.length + ys.length ≤ 1000000) :
    Calls Tryz.prog 96 #[.slice A xs.length cap, .slice B ys.length capb, .int .i64 lit] w fun e w' => ∃ C d, e = .returned (.tuple #[.slice C (resM xs ys lit).length d, .bool true]) ∧ Row .i64 w' C (resM xs ys lit) ∧ (C = none → d = 0) ∧ Below w.heap.size w w' ∧ ∀ a, C = some a → w.heap.size ≤ a.block := by
  have H := Lib.hid h
  have K := Lib.hid k
  clear h k
  unfold canM at hc
  rw [Bool.and_eq_true, Bool.and_eq_true] at hc
  obtain ⟨h0, h1, h2⟩ := hc
  have h0 := of_decide_eq_true h0
  have d0 : decide (lit < (0 : Int)) = false := decide_eq_false (by omega)
  have hn : bits .xor .i64 lit 1 = negM lit := i64_xor_one lit h0 (by omega)
  have H1 := Lib.hid h1
  have H2 := Lib.hid h2
  clear h1 h2 h0
  generalize hm : resM xs ys lit = m
  have Hm := Lib.hid hm
  clear hm
  go_enter Tryz.func96, Tryz.ntmps96
  go_upto_region 4 with (first
    | (go_at_call 94; (with_reducible refine (contains_ok cap H.out lit).mono ?_); rintro e w1 ⟨rfl, rfl⟩; rw [H1.out])
    | (go_at_call 94; (refine (contains_ok capb K.out (negM lit)).mono ?_); rintro e w1 ⟨rfl, rfl⟩; rw [H2.out]))
  have hw1 := woM_len lit xs
  have hw2 := woM_len (negM lit) ys
  have hall : allOf [((none : Option Addr), 0, woM lit xs), ((none : Option Addr), 0, woM (negM lit) ys)] = woM lit xs ++ woM (negM lit) ys := by simp [allOf]
  unfold resM at Hm
  clear d0 hall
  go_wp2_with (first
    | (go_at_call 111; (with_reducible refine (without_ok cap lit H.out).mono ?_); rintro e w1 ⟨C1, c1, rfl, hr1, hn1, hb1⟩; have Hr1 := Lib.hid hr1; have Hn1 := Lib.hid hn1; have Hb1 := Lib.hid hb1; clear hr1 hn1 hb1)
    | (go_at_call 111; (refine (without_ok capb (negM lit) (K.out.below Hb1.out)).mono ?_); rintro e w2 ⟨C2, c2, rfl, hr2, hn2, hb2⟩; have Hr := Lib.hid (rows_two (Hr1.out.below hb2) hr2 Hn1.out hn2); have Hb2 := Lib.hid (below_then Hb1.out (Nat.le_refl _) hb2); clear hr2 hn2 hb2)
    | (go_at_call 62; (refine (join_ok (rows := [(C1, c1, woM lit xs), (C2, c2, woM (negM lit) ys)]) 2 Hr.out (by simp [total]; omega) (by simp)).mono ?_); rintro e w3 ⟨v, rfl, ho, hb3⟩; have Ho := Lib.hid ho; have Hb3 := Lib.hid (below_then (Hb2.out.alloc Hb2.out.size _) (Nat.le_refl _) hb3); clear ho hb3))
  have ho := Ho.out
  have hall : allOf [(C1, c1, woM lit xs), (C2, c2, woM (negM lit) ys)] = woM lit xs ++ woM (negM lit) ys := by simp [allOf]
  rw [hall, Hm.out] at ho
  have hml : m.length ≤ 1000000 := by
    rw [← Hm.out]
    have := makeM_len (woM lit xs ++ woM (negM lit) ys)
    rw [List.length_append] at this
    omega
  obtain ⟨D, d, rfl, hr, hn, hbk⟩ := own_rowB ho rfl hml
  have Hbk := Lib.hid (fun a ha => Nat.le_trans (Nat.le_trans Hb2.out.size (by simp)) (hbk a ha))
  have Hr2 := Lib.hid hr
  have Hn2 := Lib.hid hn
  clear ho hr hn hall hbk
  go_ret2
  exact ⟨_, _, rfl, Hr2.out, Hn2.out, Hb3.out, Hbk.out⟩
end Go.Proofs.YtmbekchnfbmhbaaGreat

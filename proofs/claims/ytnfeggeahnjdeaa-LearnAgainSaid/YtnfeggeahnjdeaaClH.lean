/- Within. -/
import Derived.Test.YtnfeggeahnjdeaaClF
namespace Go.Proofs.Ytnfeggeahnjdeaa
open Go.RowKit

def outP (bs : List Int) (x : Int) : Bool := !decide (x ∈ bs)

theorem within1_ok {w : World} {AB : Option Addr} {bs : List Int} (capb g : Nat) (h : Row .i64 w AB bs) (hg : w.cell? ⟨g, 0, none⟩ = some (.slice AB bs.length capb)) (x : Int) :
    Calls Try.prog 40 #[.int .i64 x, .pointer (some ⟨g, 0, none⟩)] w fun e w' => e = .returned (.bool (outP bs x)) ∧ w = w' := by
  unfold outP
  generalize hb : decide (x ∈ bs) = b
  have HB := Lib.hid hb
  have H := Lib.hid h
  clear h hb
  go_enter Try.func40, Try.ntmps40
  go_wp2_with (go_at_call 41; refine (contains_ok capb H.out _).mono ?_; rintro e w1 ⟨rfl, rfl⟩; rw [HB.out])
  go_ret
  exact ⟨rfl, rfl⟩

theorem indexf_within {w : World} {A : Option Addr} {zs : List Int} (cap g : Nat) (h : Row .i64 w A zs) {AB : Option Addr} {bs : List Int} (capb : Nat) (hb0 : Row .i64 w AB bs) (hg : w.cell? ⟨g, 0, none⟩ = some (.slice AB bs.length capb)) :
    Calls Try.prog 49 #[.slice A zs.length cap, .func (.func 40) #[] #[.pointer (some ⟨g, 0, none⟩)]] w fun e w' => e = .returned (.int .i64 (idxF (outP bs) zs 0)) ∧ w = w' := by
  have hlen := h.len
  have H := Lib.hid h
  have Hg := Lib.hid hg
  have Hb0 := Lib.hid hb0
  clear h hg hb0
  go_enter Try.func49, Try.ntmps49
  go_wp2
  go_loopg [8] zs.length (fun g v wx => w = wx ∧ ∃ i : Nat, i + g = zs.length ∧ v = .int .i64 i ∧ idxF (outP bs) (zs.drop i) i = idxF (outP bs) zs 0)
  case atStart => exact ⟨rfl, 0, by omega, rfl, rfl⟩
  case round =>
    obtain ⟨rfl, i, hig, rfl, hinv⟩ := hrel
    have HI := Lib.hid hinv
    clear hinv
    cases gk with
    | zero =>
      have d1 : decide ((i : Int) < zs.length) = false := by simp; omega
      have HN := Lib.hid (show zs.drop i = [] from List.drop_eq_nil_of_le (by omega))
      go_wp2
      go_ret
      rw [← HI.out, HN.out]
      exact ⟨rfl, rfl⟩
    | succ k =>
      have hin : i < zs.length := by omega
      have d1 : decide ((i : Int) < zs.length) = true := by simp; omega
      obtain ⟨b, off, hA, hb, hcell⟩ := H.out.at_.resolve_left (by omega)
      subst hA
      have c0 := hcell i hin
      have Hdr := Lib.hid (show zs.drop i = zs[i] :: zs.drop (i + 1) from List.drop_eq_getElem_cons hin)
      clear hcell
      generalize zs[i] = x at *
      cases hp : outP bs x with
      | true =>
        have Hp := Lib.hid hp
        clear hp
        go_wp2_with (go_at_call 40; refine (within1_ok capb g Hb0.out Hg.out x).mono ?_; rintro e w1 ⟨rfl, rfl⟩; rw [Hp.out])
        go_ret
        rw [← HI.out, Hdr.out]
        unfold idxF
        rw [if_pos Hp.out]
        exact ⟨rfl, rfl⟩
      | false =>
        have Hp := Lib.hid hp
        clear hp
        go_wp2_with (go_at_call 40; refine (within1_ok capb g Hb0.out Hg.out x).mono ?_; rintro e w1 ⟨rfl, rfl⟩; rw [Hp.out])
        go_roundg k
        case measure => omega
        case rel => exact ⟨rfl, i + 1, by omega, by go_num, by rw [← HI.out, Hdr.out]; conv => rhs; unfold idxF; rw [if_neg (by rw [Hp.out]; decide)]⟩

theorem containsf_within {w : World} {A : Option Addr} {zs : List Int} (cap g : Nat) (h : Row .i64 w A zs) {AB : Option Addr} {bs : List Int} (capb : Nat) (hb0 : Row .i64 w AB bs) (hg : w.cell? ⟨g, 0, none⟩ = some (.slice AB bs.length capb)) :
    Calls Try.prog 39 #[.slice A zs.length cap, .func (.func 40) #[] #[.pointer (some ⟨g, 0, none⟩)]] w fun e w' => e = .returned (.bool (zs.any (outP bs))) ∧ w = w' := by
  rw [← idxF_any (outP bs) zs 0]
  have H := Lib.hid h
  have Hg := Lib.hid hg
  have Hb0 := Lib.hid hb0
  clear h hg hb0
  go_enter Try.func39, Try.ntmps39
  go_wp2_with (go_at_call 49; refine (indexf_within cap g H.out capb Hb0.out Hg.out).mono ?_; rintro e w1 ⟨rfl, rfl⟩)
  go_ret
  exact ⟨rfl, rfl⟩


theorem within_ok {w : World} {A AB : Option Addr} {zs bs : List Int} (cap capb : Nat) (h : Row .i64 w A zs) (hb0 : Row .i64 w AB bs) :
    Calls Try.prog 32 #[.slice A zs.length cap, .slice AB bs.length capb] w fun e w' => e = .returned (.bool (!zs.any (outP bs))) ∧ Below w.heap.size w w' := by
  have hb : Below w.heap.size w (w.alloc (.cells #[.slice AB bs.length capb] 23)) := (Below.refl _ w).alloc (Nat.le_refl _) _
  have H := Lib.hid (h.below hb)
  have HB := Lib.hid (hb0.below hb)
  have Hb := Lib.hid hb
  have Hg := Lib.hid (show (w.alloc (.cells #[.slice AB bs.length capb] 23)).cell? ⟨w.heap.size, 0, none⟩ = some (.slice AB bs.length capb) from (Blk.new w _ _).cell 0)
  generalize hq : zs.any (outP bs) = q
  have Hq := Lib.hid hq
  clear h hb hb0 hq
  go_enter Try.func32, Try.ntmps32
  go_wp2_with (go_at_call 39; refine (containsf_within cap w.heap.size H.out capb HB.out Hg.out).mono ?_; rintro e w1 ⟨rfl, rfl⟩; rw [Hq.out])
  go_ret
  exact ⟨rfl, Hb.out⟩
end Go.Proofs.Ytnfeggeahnjdeaa

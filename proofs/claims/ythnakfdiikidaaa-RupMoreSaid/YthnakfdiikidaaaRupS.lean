/- What two laws share: a clause that came in, as one row; what a core is. -/
import Derived.Test.YthnakfdiikidaaaRupQ
namespace Go.Proofs.Ythnakfdiikidaaa
open Go.RowKit Go.Lib

theorem isGrid_one {w : World} {A : Option Addr} {l c : Nat} {z : List Int} (h : IsRow .i64 w A l c z) :
    IsGrid (w.alloc (.cells #[.slice A l c] 28)) (some ⟨w.heap.size, 0, none⟩) 1 1 (fun _ => A) (fun _ => l) (fun _ => c) (fun _ => z) := by
  refine .inr ⟨_, rfl, Nat.le_refl _, by decide, fun r hr => ?_⟩
  obtain rfl : r = 0 := by omega
  have hc : (w.alloc (.cells #[.slice A l c] 28)).cell? ((⟨w.heap.size, 0, none⟩ : Addr).add 0) = some (.slice A l c) := by
    rw [addr_add]
    exact (Blk.new w _ _).cell 0
  rcases h with ⟨rfl, rfl, rfl, rfl⟩ | ⟨x, rfl, h1, h2, h3, h4, h5⟩
  · exact ⟨hc, Nat.le_refl _, Nat.zero_le _, rfl, (fun n hn => by cases hn), fun _ => rfl, fun a' ha => by cases ha⟩
  · exact ⟨hc, h1, h2, h3, h5, (fun ha => by cases ha), fun a' ha c' hc' => by
      injection ha with ha
      subst ha
      exact Lib.cell?_alloc_some _ (h4 c' (by rw [h3]; exact hc'))⟩

/-- A clause that came in and is not great. -/
structure TameC (w : World) (A : Option Addr) (k : Nat) (c : List Int) : Prop where
  row : Row .i64 w A c
  nil : A = none → k = 0
  len : c.length ≤ 20
  max : ∀ x ∈ c, x ≤ 4096
theorem tameC {w : World} {A : Option Addr} {l k : Nat} {z : List Int} (h : IsRow .i64 w A l k z) (hn : (1 ≤ 80) ∧ ∀ r, r < 1 → l ≤ 20 ∧ ∀ c, c < l → z.getD c 0 ≤ 4096) : ∃ c, c.length = l ∧ TameC w A k c := by
  have hn := hn.2 0 (by omega)
  obtain ⟨h1, h2, h3, _⟩ := h.row (by omega)
  exact ⟨z.take l, h1, ⟨h2, h3, by omega, take_le hn.2⟩⟩
theorem TameC.big {w : World} {A : Option Addr} {k : Nat} {c : List Int} (h : TameC w A k c) : ∀ x ∈ c, x ≤ 9223372036854775807 := fun x hx => by have := h.max x hx; omega

theorem plc_ord (n : Nat) (p : Nat → Bool) : (plc n p).Pairwise (· < ·) := List.pairwise_lt_range.filter p
/-- What stays follows from what stays. -/
theorem core_go (ls : List (List Int)) (c : List Int) : ∀ (i : Nat) (p : Nat → Bool), followsM (pickM ls (plc ls.length p)) c = true → followsM (pickM ls (plc ls.length (coreP ls c i p))) c = true
  | 0, _, h => h
  | i + 1, p, h => by
    show followsM (pickM ls (plc ls.length (coreP ls c i (tryP ls c i p)))) c = true
    refine core_go ls c i _ ?_
    cases hr : followsM (pickM ls (plc ls.length fun k => p k && k != i)) c with
    | true => rw [tryP_yes hr]; exact hr
    | false => rw [tryP_no hr]; exact h
theorem core_follows {ls : List (List Int)} {c : List Int} (h : followsM ls c = true) : followsM (pickM ls (coreM ls c)) c = true := by
  unfold coreM
  rw [if_pos h]
  exact core_go ls c ls.length _ (by rw [pickM_all]; exact h)
theorem core_lt {ls : List (List Int)} {c : List Int} : ∀ i ∈ coreM ls c, i < ls.length := by
  intro i hi
  unfold coreM at hi
  split at hi
  · exact plc_lt i hi
  · cases hi
theorem core_ord (ls : List (List Int)) (c : List Int) : (coreM ls c).Pairwise (· < ·) := by
  unfold coreM
  split
  · exact plc_ord _ _
  · exact List.Pairwise.nil
theorem core_len (ls : List (List Int)) (c : List Int) : (coreM ls c).length ≤ ls.length := by
  unfold coreM
  split
  · exact plc_len _ _
  · exact Nat.zero_le _
end Go.Proofs.Ythnakfdiikidaaa

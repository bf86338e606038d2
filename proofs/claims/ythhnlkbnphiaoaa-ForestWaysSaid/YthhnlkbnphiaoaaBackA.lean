/- slices.Backward over the joins. -/
import Derived.Test.YthhnlkbnphiaoaaJoin
namespace Go.Proofs.Ythhnlkbnphiaoaa
open Go.RowKit
open Go.Maps (Keyed)

def joinVal (j : Jn) : Value := .agg #[.int .i64 j.a, .int .i64 j.b, .int .i64 j.r]
theorem backward_ok (w : World) (A : Option Addr) (len cap : Nat) :
    Calls Try.prog 20 #[.slice A len cap] w fun e w' => e = .returned (.func (.func 23) #[] #[.pointer (some ⟨w.heap.size, 0, none⟩)]) ∧ w.alloc (.cells #[.slice A len cap] 45) = w' := by
  go_enter Try.func20, Try.ntmps20
  go_wp2
  go_ret
  exact ⟨rfl, rfl⟩

/-- The rows of a slice that a box holds. -/
structure Bw (w : World) (c1 G off cap : Nat) (A : Option Addr) (L : List Jn) : Prop where
  blk : Blk w c1 45 #[.slice A L.length cap]
  at_ : L ≠ [] → A = some ⟨G, off, none⟩ ∧ ∃ cur, Blk w G 59 cur ∧ ∀ (i j : Nat) (hi : i < L.length), j < 3 → cur[off + (i * 3 + j)]? = (joinCells L[i])[j]?
theorem Bw.keep {w w' : World} {c1 G off cap : Nat} {A : Option Addr} {L : List Jn} {S : Nat → Prop} (h : Bw w c1 G off cap A L) (hk : Kept S w w') (h1 : ¬ S c1) (h2 : ¬ S G) : Bw w' c1 G off cap A L :=
  ⟨h.blk.kept hk h1, fun hl => by
    obtain ⟨e, cur, hb, hc⟩ := h.at_ hl
    exact ⟨e, cur, hb.kept hk h2, hc⟩⟩

set_option maxHeartbeats 1000000 in
theorem backward_iter (l : Nat) {c1 G off cap : Nat} {A : Option Addr} {L : List Jn} (hlen : L.length ≤ 1000000) (X : Nat → World → Prop) (w : World) (h0 : Bw w c1 G off cap A L) (hx0 : X 0 w)
    (hY : ∀ k W, (hk : k < L.length) → X k W → Bw W c1 G off cap A L →
      ∃ fn tmps assign body, (Instr.yield l #[.int .i64 ((L.length : Int) - 1 - k), joinVal L[L.length - 1 - k]]).run Try.prog W = .ok (.round l fn tmps assign body) W ∧
        RoundIn Fence.wide 0 Try.prog l fn tmps assign body W fun e W' => e = .returned (.bool true) ∧ X (k + 1) W' ∧ Bw W' c1 G off cap A L) :
    Calls Try.prog 23 #[.func (.yield l) #[] #[], .pointer (some ⟨c1, 0, none⟩)] w fun e W' => e = .returned (.tuple #[]) ∧ X L.length W' ∧ Bw W' c1 G off cap A L := by
  have a0 := h0.blk.cell 0
  simp only [List.getElem?_toArray, List.getElem?_cons_zero] at a0
  have H0 := Lib.hid h0
  have HY := Lib.hid hY
  have Hx0 := Lib.hid hx0
  clear h0 hY hx0
  go_enter Try.func23, Try.ntmps23
  go_wp2
  go_loopw [3] (fun i wr => ∃ k : Nat, k ≤ L.length ∧ i = .int .i64 ((L.length : Int) - 1 - k) ∧ X k wr ∧ Bw wr c1 G off cap A L) (fun i _ => (1 + intOf i).toNat)
  case atStart => exact ⟨0, Nat.zero_le _, by go_num, Hx0.out, H0.out⟩
  case round =>
    obtain ⟨k, hk, rfl, hx, hb⟩ := hrel
    have Hx := Lib.hid hx
    have Hb := Lib.hid hb
    by_cases hz : k = L.length
    · subst hz
      rw [show (L.length : Int) - 1 - L.length = -1 by omega]
      clear hx hb
      go_wp2
      go_end0
      exact ⟨rfl, Hx.out, Hb.out⟩
    · obtain ⟨m, hm⟩ : ∃ m, L.length = m + k + 1 := ⟨L.length - k - 1, by omega⟩
      have hml : m < L.length := by omega
      have d1 : decide (0 ≤ (m : Int)) = true := by simp
      have hidx : L[L.length - 1 - k]'(by omega) = L[m] := by congr 1; omega
      obtain ⟨rfl, cur, hcur, hcells⟩ := hb.at_ (fun e => by rw [e] at hml; cases hml)
      have c0 := hb.blk.cell 0
      have e0 := (hcur.cell (off + (m * 3 + 0))).trans (hcells m 0 hml (by omega))
      have e1 := (hcur.cell (off + (m * 3 + 1))).trans (hcells m 1 hml (by omega))
      have e2 := (hcur.cell (off + (m * 3 + 2))).trans (hcells m 2 hml (by omega))
      simp only [joinCells, List.getElem?_toArray, List.getElem?_cons_zero, List.getElem?_cons_succ, Nat.add_zero] at c0 e0 e1 e2
      rw [← Nat.add_assoc] at e1 e2
      rw [show (L.length : Int) - 1 - k = m by omega]
      obtain ⟨fn, tmps, assign, body, hyield, hround⟩ := HY.out k wr (by omega) Hx.out Hb.out
      rw [hidx, show (L.length : Int) - 1 - k = m by omega] at hyield
      have Hm := Lib.hid hm
      have hlt : (m : Int) < L.length := by omega
      generalize L[m] = p at *
      unfold joinVal at hyield
      clear hx hb hcells hcur hidx hm hz
      go_upto_region 3 with (fail)
      refine (wpIn_wide (n := 1)).1 ?_
      gi_wp2
      refine hround.mono ?_
      rintro e W5 ⟨rfl, hx5, hm5⟩
      have Hx5 := Lib.hid hx5
      clear hx5
      gi_wp2
      go_wp2
      have := Hm.out
      exact ⟨⟨k + 1, by omega, by congr 1; omega, Hx5.out, hm5⟩, by simp [intOf]; omega⟩
end Go.Proofs.Ythhnlkbnphiaoaa

/- behind: a forest behind acts. -/
import Derived.Test.YthhnlkbnphiaoaaLawA
import Derived.Deep.RegionHeld3
namespace Go.Proofs.Ythhnlkbnphiaoaa
open Go.RowKit

def actM (n : Int) (J : List Jn) (q : Act4) : List Jn := if q.d = 0 then joinM n J q.a q.b q.r else if q.d = 1 then backM J q.a else J
def behindF (n : Int) (f : Nat → Act4) : Nat → List Jn
  | 0 => []
  | k + 1 => actM n (behindF n f k) (f k)
theorem joinM_len (n : Int) (J : List Jn) (a b r : Int) : (joinM n J a b r).length ≤ J.length + 1 := by
  unfold joinM
  split
  · rw [List.length_append, List.length_singleton]
    omega
  · omega
theorem backM_len (J : List Jn) (k : Int) : (backM J k).length ≤ J.length := by
  unfold backM
  split
  · rw [List.length_take]
    omega
  · omega
theorem actM_len (n : Int) (J : List Jn) (q : Act4) : (actM n J q).length ≤ J.length + 1 := by
  unfold actM
  split
  · exact joinM_len _ _ _ _ _
  · split
    · have := backM_len J q.a
      omega
    · omega
theorem behindF_len (n : Int) (f : Nat → Act4) : ∀ k, (behindF n f k).length ≤ k
  | 0 => Nat.le_refl _
  | k + 1 => by
    have h1 := behindF_len n f k
    have h2 := actM_len n (behindF n f k) (f k)
    show (actM n (behindF n f k) (f k)).length ≤ k + 1
    omega
theorem act_cells {w wr : World} {A : Option Addr} {l c : Nat} {f : Nat → Act4} (h : IsActs w A l c f) (hB : Below w.heap.size w wr) {k : Nat} (hk : k < l) : ∃ x, A = some x ∧ (x.add (k * 4)).block < w.heap.size ∧ wr.cell? (x.add (k * 4)) = some (.int .i64 (f k).d) ∧
    wr.cell? ⟨(x.add (k * 4)).block, (x.add (k * 4)).off + 1, none⟩ = some (.int .i64 (f k).a) ∧ wr.cell? ⟨(x.add (k * 4)).block, (x.add (k * 4)).off + 2, none⟩ = some (.int .i64 (f k).b) ∧ wr.cell? ⟨(x.add (k * 4)).block, (x.add (k * 4)).off + 3, none⟩ = some (.int .i64 (f k).r) := by
  rcases h with ⟨_, h⟩ | ⟨x, hx, h1, _, h4⟩
  · omega
  · obtain ⟨e0, e1, e2, e3⟩ := h4 k (by omega)
    exact ⟨x, hx, World.block_lt_of_cell? _ _ e0, (hB.cell (World.block_lt_of_cell? _ _ e0)).trans e0, (hB.cell (World.block_lt_of_cell? _ _ e1)).trans e1, (hB.cell (World.block_lt_of_cell? _ _ e2)).trans e2, (hB.cell (World.block_lt_of_cell? _ _ e3)).trans e3⟩

theorem below_undrew {H : Nat} {w w' : World} (h : Below H w.drew w') : Below H w w' := ⟨h.os, h.tape, h.output, h.size, h.block⟩
theorem cell_low {H : Nat} {w w' : World} (h : Below H w w') {b o : Nat} (hb : b < H) {v : Value} (e : w.cell? ⟨b, o, none⟩ = some v) : w'.cell? ⟨b, o, none⟩ = some v := (h.cell hb).trans e
set_option maxRecDepth 100000 in
set_option maxHeartbeats 1000000 in
theorem behind_ok (n : Int) (h0 : 1 ≤ n) (hn : n ≤ 40) (A : Option Addr) (l c : Nat) (f : Nat → Act4) (w : World) (ha : IsActs w A l c f) (hl : l ≤ 100) :
    Calls Try.prog 8 #[.int .i64 n, .slice A l c] w fun e w' => ∃ bf bn bp lj N, e = .returned (.pointer (some ⟨bf, 0, none⟩)) ∧ FR w' w.heap.size bf bn bp lj N n (behindF n f l) 30000 ∧ Below w.heap.size w w' := by
  have HA := Lib.hid ha
  clear ha
  go_enter Try.func8, Try.ntmps8
  go_wp2_with (go_at_call 17; refine (new_ok n (by omega) (by omega) _).mono ?_; rintro e w1 ⟨bf, bn, bp, rfl, hf, hb⟩; have Hf := Lib.hid hf; have Hb := Lib.hid hb; clear hf hb)
  go_loopw [6] (fun i wr => ∃ k : Nat, k ≤ l ∧ i = .int .i64 k ∧ (∃ lj N, FR wr w.heap.size bf bn bp lj N n (behindF n f k) (300 * k)) ∧ Below w.heap.size w wr) (fun i _ => l - (intOf i).toNat)
  case atStart => exact ⟨0, Nat.zero_le _, rfl, ⟨_, _, Hf.out⟩, Hb.out⟩
  case round =>
    obtain ⟨k, hk, rfl, ⟨lj, N, hF⟩, hB⟩ := hrel
    have HF := Lib.hid hF
    have HB := Lib.hid hB
    have hsz := hB.size
    by_cases hlt : k < l
    · obtain ⟨x0, rfl, hx0, e0, e1, e2, e3⟩ := act_cells HA.out hB hlt
      have hlen := behindF_len n f k
      have HM := Lib.hid (show behindF n f (k + 1) = actM n (behindF n f k) (f k) from rfl)
      generalize behindF n f k = J at *
      generalize f k = q at *
      clear hF hB Hf Hb
      by_cases hd0 : q.d = 0
      · have d0 : (q.d == 0) = true := by simpa using hd0
        have d1 : (q.d == 1) = false := by simp [hd0]
        go_upto_region 7 with (fail)
        have hF2 : FR wr.drew w.heap.size bf bn bp lj N n J (300 * k) := HF.out.below ⟨rfl, rfl, rfl, Nat.le_refl _, fun _ _ => rfl⟩
        have HF2 := Lib.hid hF2
        have hsz2 : w.heap.size ≤ wr.drew.heap.size := hsz
        clear hF2
        go_region_held3 (fun w' => w'.cell? ⟨(x0.add (k * 4)).block, (x0.add (k * 4)).off + 1, none⟩ = some (.int .i64 q.a) ∧ w'.cell? ⟨(x0.add (k * 4)).block, (x0.add (k * 4)).off + 2, none⟩ = some (.int .i64 q.b) ∧ w'.cell? ⟨(x0.add (k * 4)).block, (x0.add (k * 4)).off + 3, none⟩ = some (.int .i64 q.r)) (go_keep)
          (first | (go_at_call 11; refine (join_ok HF2.out (by omega) _ _ _).mono ?_; rintro e w3 ⟨lj2, N2, rfl, hF3, hk3⟩; have hbb := below_undrew (hk3.below hsz2); have x1 := cell_low hbb hx0 e1; have x2 := cell_low hbb hx0 e2; have x3 := cell_low hbb hx0 e3; have HF3 := Lib.hid hF3; have Hbb := Lib.hid hbb; clear hF3 hk3 hbb))
        go_wp2
        refine ⟨⟨k + 1, by omega, by go_num, ⟨lj2, N2, ?_⟩, HB.out.trans Hbb.out⟩, by simp [intOf]; omega⟩
        rw [HM.out]
        unfold actM
        rw [if_pos hd0]
        exact HF3.out.mono (by omega)
      · by_cases hd1 : q.d = 1
        · have d0 : (q.d == 0) = false := by simpa using hd0
          have d1 : (q.d == 1) = true := by simpa using hd1
          go_wp2_with (go_at_call 13; refine (back_ok HF.out (by omega) _).mono ?_; rintro e w3 ⟨lj2, N2, rfl, hF3, hk3⟩; have hbb := hk3.below hsz; have HF3 := Lib.hid hF3; have Hbb := Lib.hid hbb; clear hF3 hk3 hbb)
          refine ⟨⟨k + 1, by omega, by go_num, ⟨lj2, N2, ?_⟩, HB.out.trans Hbb.out⟩, by simp [intOf]; omega⟩
          rw [HM.out]
          unfold actM
          rw [if_neg hd0, if_pos hd1]
          exact HF3.out.mono (by omega)
        · have d0 : (q.d == 0) = false := by simpa using hd0
          have d1 : (q.d == 1) = false := by simpa using hd1
          go_wp2
          refine ⟨⟨k + 1, by omega, by go_num, ⟨lj, N, ?_⟩, HB.out⟩, by simp [intOf]; omega⟩
          rw [HM.out]
          unfold actM
          rw [if_neg hd0, if_neg hd1]
          exact HF.out.mono (by omega)
    · obtain rfl : k = l := by omega
      clear hF hB Hf Hb
      go_wp2
      go_ret
      exact ⟨bf, bn, bp, lj, N, rfl, HF.out.mono (by omega), HB.out⟩
end Go.Proofs.Ythhnlkbnphiaoaa

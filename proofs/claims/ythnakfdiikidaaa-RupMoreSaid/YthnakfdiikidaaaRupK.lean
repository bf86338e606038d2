/- Clone, DeleteFunc with a captured place; the closure that asks whether some clauses do. -/
import Derived.Test.YthnakfdiikidaaaRupJ
namespace Go.Proofs.Ythnakfdiikidaaa
open Go.RowKit Go.Lib Go.Sort

theorem clone_int {w : World} {A : Option Addr} {zs : List Int} (cap : Nat) (h : Row .i64 w A zs) :
    Calls Try.prog 30 #[.slice A zs.length cap] w fun e w' => ∃ v, e = .returned v ∧ w'.ownsRow w.heap.size 3 1 v zs.length (zs.map (Value.int .i64)) ∧ Below w.heap.size w w' := by
  have hl := h.len
  rcases h.at_ with h0 | ⟨b, off, rfl, _, hc⟩
  · have hz : zs = [] := List.eq_nil_of_length_eq_zero h0
    subst hz
    cases A with
    | none => exact (Try.slices_Clone_int_nil 0 cap w).mono fun e w' ⟨h1, h2⟩ => ⟨_, h1, World.ownsRow_nil _ _ _ _, by rw [h2]; exact Below.refl _ _⟩
    | some a => exact (Try.slices_Clone_int_zero a cap w).mono fun e w' ⟨v, h1, h2, _, h3⟩ => ⟨v, h1, h2, h3⟩
  · refine (Try.slices_Clone_int b off zs.length cap zs w (Nat.le_refl _) (by omega) (Row.cells hc)).mono fun e w' ⟨v, h1, h2, _, h3⟩ => ⟨v, h1, ?_, h3⟩
    rw [List.take_of_length_le (Nat.le_refl _)] at h2
    exact h2

theorem eqc_gives (lit x : Int) (B : Nat) (W : World) (hc : W.cell? ⟨B, 0, none⟩ = some (.int .i64 lit)) :
    FnGives Try.prog 31 #[.pointer (some ⟨B, 0, none⟩)] #[.int .i64 x] (.bool (x == lit)) W := by
  show Calls Try.prog 31 #[.int .i64 x, .pointer (some ⟨B, 0, none⟩)] W _
  generalize hq : (x == lit) = q
  go_enter Try.func31, Try.ntmps31
  go_wp2
  go_ret
  exact ⟨rfl, 0, rfl⟩

/-- All but a literal. -/
def woM (lit : Int) (zs : List Int) : List Int := zs.filter fun x => !(x == lit)

theorem delete_lit {w : World} {base g cap B : Nat} {zs : List Int} {lit : Int} (h : OwnI w base g cap zs) (hsz : zs.length ≤ 9223372036854775807) (hB : B < w.heap.size) (hne : B ≠ g) (hcell : w.cell? ⟨B, 0, none⟩ = some (.int .i64 lit)) :
    Calls Try.prog 29 #[.slice (some ⟨g, 0, none⟩) zs.length cap, .func (.func 31) #[] #[.pointer (some ⟨B, 0, none⟩)]] w fun e w' => e = .returned (.slice (some ⟨g, 0, none⟩) (woM lit zs).length cap) ∧ OwnI w' base g cap (woM lit zs) ∧ w.grownBy w' (some g) := by
  obtain ⟨cur, hb, hh, hc, hM, hs, ht⟩ := h.block
  have eg : ∀ args w, (callFunc 31 args).run Try.prog w = .ok (.enter 31 args) w := enters_of Try.func31 (by kernel_rfl) rfl
  have h0 := Try.slices_DeleteFunc_int (fun x => x == lit) 31 #[.pointer (some ⟨B, 0, none⟩)] eg g 0 cap zs.toArray w (fun W x hb => eqc_gives lit x B W ((hb.cell (p := ⟨B, 0, none⟩) hB).trans hcell))
    (fun n os dk x _ => eqc_gives lit x B _ (by
      unfold sortWorld
      rw [cell?_grow _ _ _ (by show B < (putRow _ _ _ _ _).heap.size; rw [size_putRow]; exact hB), cell?_putRow_other _ _ g 0 _ _ (Or.inl hne)]
      exact hcell)) (holds_of_blockI hh ht) (by simpa using hsz) (by simpa using hc)
  simp only [List.size_toArray] at h0
  refine h0.mono ?_
  rintro e w' ⟨rfl, k, rfl⟩
  have hl : (woM lit zs).length ≤ zs.length := List.length_filter_le _ _
  have h1 := ownsRow_sortedI (n := k) (os := #[]) (ss := zs) (ts := woM lit zs ++ List.replicate (zs.length - (woM lit zs).length) 0) (by rw [List.length_append, List.length_replicate]; omega) hb hh hc hM hs
  have h2 := grownBy_sortedI (w := w) (g := g) (n := k) (os := #[]) (woM lit zs ++ List.replicate (zs.length - (woM lit zs).length) 0).toArray
  rw [grow_empty] at h1 h2
  exact ⟨rfl, OwnI.cut _ h1 hl, h2⟩

theorem delete_any {w : World} {base B : Nat} {v : Value} {zs : List Int} {lit : Int} (ho : w.ownsRow base 3 1 v zs.length (zs.map (Value.int .i64))) (hsz : zs.length ≤ 9223372036854775807) (hbs : base ≤ w.heap.size) (hB : B < base) (hcell : w.cell? ⟨B, 0, none⟩ = some (.int .i64 lit)) :
    Calls Try.prog 29 #[v, .func (.func 31) #[] #[.pointer (some ⟨B, 0, none⟩)]] w fun e w' => ∃ v', e = .returned v' ∧ w'.ownsRow base 3 1 v' (woM lit zs).length ((woM lit zs).map (Value.int .i64)) ∧ Below base w w' := by
  rcases own_cases ho rfl with ⟨rfl, h0⟩ | ⟨g, c, rfl, hown, hb, _⟩
  · refine (delete_nil _ _).mono ?_
    rintro e w' ⟨rfl, rfl⟩
    rw [h0]
    exact ⟨_, rfl, World.ownsRow_nil _ _ _ _, Below.refl _ _⟩
  · refine (delete_lit hown hsz (by omega) (by omega) hcell).mono ?_
    rintro e w' ⟨rfl, h1, h2⟩
    exact ⟨_, rfl, h1, below_grow (Below.refl _ _) h2 hbs hb⟩


/-- The clauses at some places. -/
def pickR (L : List (Option Addr × Nat × List Int)) (ps : List Nat) : List (Option Addr × Nat × List Int) := ps.map fun i => L.getD i (none, 0, [])
theorem pickR_len (L : List (Option Addr × Nat × List Int)) (ps : List Nat) : (pickR L ps).length = ps.length := List.length_map _
theorem pickR_mem {L : List (Option Addr × Nat × List Int)} {ps : List Nat} (h : ∀ i ∈ ps, i < L.length) : ∀ r ∈ pickR L ps, r ∈ L := by
  intro r hr
  obtain ⟨i, hi, rfl⟩ := List.mem_map.1 hr
  rw [List.getD_eq_getElem?_getD, List.getElem?_eq_getElem (h i hi)]
  exact List.getElem_mem _
theorem pickR_snoc (L : List (Option Addr × Nat × List Int)) (ps : List Nat) {k : Nat} (hk : k < ps.length) (hp : ps[k] < L.length) : pickR L (ps.take (k + 1)) = pickR L (ps.take k) ++ [L[ps[k]]] := by
  unfold pickR
  rw [List.take_succ_eq_append_getElem hk, List.map_append, List.map_cons, List.map_nil, List.getD_eq_getElem?_getD, List.getElem?_eq_getElem hp]
  rfl

set_option maxHeartbeats 1000000 in
theorem asks_ok {w : World} {LA CA PA : Option Addr} {L : List (Option Addr × Nat × List Int)} {c : List Int} {ps : List Nat} {bl bc : Nat} (cl cc cp : Nat) (hg : Grid w LA L) (hc : Row .i64 w CA c) (hm : ∀ x ∈ c, x ≤ 9223372036854775807)
    (hp : Row .i64 w PA (ps.map fun i : Nat => (i : Int))) (hps : ∀ i ∈ ps, i < L.length) (hbl : Blk w bl 22 #[.slice LA L.length cl]) (hbc : Blk w bc 28 #[.slice CA c.length cc]) :
    Calls Try.prog 28 #[.slice PA ps.length cp, .pointer (some ⟨bl, 0, none⟩), .pointer (some ⟨bc, 0, none⟩)] w fun e w' => e = .returned (.bool (followsM (rowsOf (pickR L ps)) c)) ∧ Below w.heap.size w w' := by
  have hpl := hp.len
  rw [List.length_map] at hpl
  have hLl := hg.len
  have Hg := Lib.hid hg
  have Hc := Lib.hid hc
  have Hm := Lib.hid hm
  have Hp := Lib.hid hp
  have Hps := Lib.hid hps
  have Hbl := Lib.hid hbl
  have Hbc := Lib.hid hbc
  clear hg hc hm hp hps hbl hbc
  go_enter Try.func28, Try.ntmps28
  go_wp2
  go_loopw [10, 5] (fun vi vs wr => ∃ k : Nat, k ≤ ps.length ∧ vi = .int .i64 k ∧ Gath wr w.heap.size vs (pickR L (ps.take k)) ∧ Below w.heap.size w wr) (fun vi _ _ => (ps.length - intOf vi).toNat)
  case atStart => exact ⟨0, Nat.zero_le _, rfl, .inl (World.ownsRow_nil _ _ _ _), Below.refl _ _⟩
  case round =>
    obtain ⟨k, hk, rfl, hga, hbel⟩ := hrel
    have Hga := Lib.hid hga
    have Hbel := Lib.hid hbel
    by_cases hlt : k < ps.length
    · have d1 : decide ((k : Int) < ps.length) = true := by simp; omega
      obtain ⟨pb, poff, hA, hpb, hcell⟩ := (Hp.out.below hbel).at_.resolve_left (by rw [List.length_map]; omega)
      subst hA
      have y0 := hcell k (by rw [List.length_map]; exact hlt)
      rw [List.getElem_map] at y0
      have hi := Hps.out ps[k] (List.getElem_mem hlt)
      obtain ⟨gb, goff, hA, hgb, hrow⟩ := (Hg.out.below hbel).at_.resolve_left (by omega)
      subst hA
      have z0 := (hrow ps[k] hi).1
      have x0 := (Hbl.out.below hbel Hbl.out.lt).cell 0
      simp only [List.getElem?_toArray, List.getElem?_cons_zero] at x0
      have hsn := pickR_snoc L ps hlt hi
      have hpk : (pickR L (ps.take k)).length = k := by rw [pickR_len, List.length_take]; omega
      have X2 := Lib.hid (show (pickR L (ps.take k)).length + 1 ≤ 1000000 by omega)
      have Hsn := Lib.hid hsn
      have t1 : (0 : Int) ≤ (ps[k] : Int) := by omega
      have t2 : (ps[k] : Int) < (L.length : Int) := by omega
      clear hcell hrow hga hbel hsn hpk
      generalize pickR L (ps.take k) = G at *
      generalize L[ps[k]] = sk at *
      generalize ps[k] = i at *
      go_wp2_with (at_builtin; go_loud (refine list_gath _ rfl (.tmp 14) (.tmp 19) 22 rfl w.heap.size _ G rfl (Hga.out.alloc _) sk wr.heap.size rfl (Blk.new wr _ _) Try.underlying22 X2.out (by have := Hbel.out.size; simp; omega) ?_); intro v6 w6 hg6 hb6; have HG6 := Lib.hid hg6; have HB6 := Lib.hid ((Hbel.out.alloc Hbel.out.size _).trans hb6); clear hg6 hb6)
      go_roundw
      case rel => exact ⟨k + 1, by omega, by go_num, by rw [Hsn.out]; exact HG6.out, HB6.out⟩
      case measure => simp only [intOf]; omega
    · obtain rfl : k = ps.length := by omega
      have d1 : decide ((ps.length : Int) < ps.length) = false := by simp
      rw [List.take_length] at hga
      obtain ⟨AA, ca, rfl, hgr⟩ := hga.grid (by rw [pickR_len]; exact hpl) (fun r hr => (Hg.out.below hbel).each r (pickR_mem Hps.out r hr))
      have x0 := (Hbc.out.below hbel Hbc.out.lt).cell 0
      simp only [List.getElem?_toArray, List.getElem?_cons_zero] at x0
      have K1 := follows_ok ca cc hgr (Hc.out.below hbel) Hm.out
      clear hga hbel hgr
      generalize hG : pickR L ps = G at *
      have HG := Lib.hid hG
      clear hG
      go_wp2_with (go_at_call 13; go_loud (with_reducible refine K1.mono ?_); rintro e w3 ⟨rfl, hb3⟩; have HB3 := Lib.hid (below_then Hbel.out (Nat.le_refl _) hb3); clear hb3)
      go_ret
      exact ⟨by rw [HG.out]; rfl, HB3.out⟩
end Go.Proofs.Ythnakfdiikidaaa

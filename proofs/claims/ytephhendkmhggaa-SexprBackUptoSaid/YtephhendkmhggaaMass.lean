/- Head of any expression: the program's and the reference's. -/
import Derived.Test.YtephhendkmhggaaStD
import Derived.Test.YtephhendkmhggaaRefU
namespace Go.Proofs.Ytephhendkmhggaa
open Go.RowKit

theorem head_list (T t1 : List UInt8) (k1 : Int) (l1 r : List Sx) : Sx.head (.mk 3 T (.mk k1 t1 l1 :: r)) = if k1 = 0 then t1 else [] := by
  by_cases h : k1 = 0
  · subst h
    rw [if_pos rfl]
    rfl
  · rw [if_neg h]
    unfold Sx.head
    dsimp only
    rw [if_pos rfl]
    split
    · rename_i heq
      injection heq with h1 h2
      injection h1 with h3
      exact absurd h3 h
    · rfl

set_option maxHeartbeats 1000000 in
set_option maxRecDepth 100000 in
theorem headx_ok {S : Nat → Prop} (x : Sx) (w : World) (v : Value) (hv : Lies S w v x) : Calls Try.prog 22 #[v] w fun e w' => (∃ s, e = .returned (.string s) ∧ byts s = x.head) ∧ Below w.heap.size w w' := by
  obtain ⟨k, T, l⟩ := x
  obtain ⟨t, A, c, rfl, rfl, hlc, hnil, hmax, hk⟩ := hv.open_
  have hb0 : Below w.heap.size w (w.alloc (.cells #[.int .i8 k, .string t, .slice A l.length c] 26)) := (Below.refl _ w).alloc (Nat.le_refl _) _
  have HB0 := Lib.hid hb0
  have HK := Lib.hid (hk.keep hb0)
  obtain ⟨R, hR⟩ : ∃ R, (Sx.mk k (byts t) l).head = R := ⟨_, rfl⟩
  rw [hR]
  clear hk hnil hv hb0
  by_cases h3 : k = 3
  · subst h3
    cases l with
    | nil =>
      have HE := Lib.hid (show R = [] from hR.symm)
      clear hR HK
      go_enter Try.func22, Try.ntmps22
      go_wp2
      go_ret
      exact ⟨⟨⟨#[]⟩, rfl, by rw [HE.out]⟩, HB0.out⟩
    | cons y r =>
      obtain ⟨b, off, k1, t1, B1, n1, m1, rfl, _, hlt, y0, y1, y2, hy⟩ := HK.out 0 (Nat.zero_lt_succ _)
      obtain ⟨k2, T2, l2⟩ := y
      rw [List.getElem_cons_zero] at hy
      obtain ⟨t2, A2, c2, hv2, ht2, _⟩ := hy.open_
      injection hv2 with e
      injection e with e
      injection e with e0 e
      injection e with e1 e
      injection e0 with _ e0
      injection e1 with e1
      subst e0 e1
      have hpos : (0 : Int) < ((Sx.mk k1 T2 l2 :: r).length : Int) := by simp
      have d0 : (((Sx.mk k1 T2 l2 :: r).length : Int) == 0) = false := beq_eq_false_iff_ne.2 (by omega)
      have d1 : (0 : Nat) < (Sx.mk k1 T2 l2 :: r).length := Nat.zero_lt_succ _
      generalize hL : (Sx.mk k1 T2 l2 :: r).length = L at *
      rw [Nat.zero_mul, Nat.add_zero] at y0 y1 y2
      by_cases h0 : k1 = 0
      · subst h0
        have HE := Lib.hid (show R = byts t1 by rw [← hR, ht2, head_list, if_pos rfl])
        clear hR HK hy hL ht2
        go_enter Try.func22, Try.ntmps22
        go_wp2
        go_ret
        exact ⟨⟨_, rfl, HE.out.symm⟩, HB0.out⟩
      · have b0 : (k1 != 0) = true := bne_iff_ne.2 h0
        have b0' : (k1 == 0) = false := beq_eq_false_iff_ne.2 h0
        have HE := Lib.hid (show R = [] by rw [← hR, head_list, if_neg h0])
        clear hR HK hy hL ht2 h0
        go_enter Try.func22, Try.ntmps22
        go_wp2
        go_ret
        exact ⟨⟨⟨#[]⟩, rfl, by rw [HE.out]⟩, HB0.out⟩
  · have b3 : (k != 3) = true := bne_iff_ne.2 h3
    have b3' : (k == 3) = false := beq_eq_false_iff_ne.2 h3
    have HE := Lib.hid (show R = [] by rw [← hR]; unfold Sx.head; dsimp only; rw [if_neg h3])
    clear hR HK h3
    go_enter Try.func22, Try.ntmps22
    go_wp2
    go_ret
    exact ⟨⟨⟨#[]⟩, rfl, by rw [HE.out]⟩, HB0.out⟩

set_option maxHeartbeats 1000000 in
set_option maxRecDepth 100000 in
theorem rheadx_ok {S : Nat → Prop} (x : Sx) (w : World) (v : Value) (hv : Lies S w v x) : Calls Try.prog 23 #[v] w fun e w' => (∃ s, e = .returned (.string s) ∧ byts s = x.head) ∧ Below w.heap.size w w' := by
  obtain ⟨k, T, l⟩ := x
  obtain ⟨t, A, c, rfl, rfl, hlc, hnil, hmax, hk⟩ := hv.open_
  have hb0 : Below w.heap.size w (w.alloc (.cells #[.int .i8 k, .string t, .slice A l.length c] 26)) := (Below.refl _ w).alloc (Nat.le_refl _) _
  have HB0 := Lib.hid hb0
  have HK := Lib.hid (hk.keep hb0)
  obtain ⟨R, hR⟩ : ∃ R, (Sx.mk k (byts t) l).head = R := ⟨_, rfl⟩
  rw [hR]
  clear hk hnil hv hb0
  by_cases h3 : k = 3
  · subst h3
    cases l with
    | nil =>
      have HE := Lib.hid (show R = [] from hR.symm)
      clear hR HK
      go_enter Try.func23, Try.ntmps23
      go_wp2
      go_ret
      exact ⟨⟨⟨#[]⟩, rfl, by rw [HE.out]⟩, HB0.out⟩
    | cons y r =>
      obtain ⟨b, off, k1, t1, B1, n1, m1, rfl, _, hlt, y0, y1, y2, hy⟩ := HK.out 0 (Nat.zero_lt_succ _)
      obtain ⟨k2, T2, l2⟩ := y
      rw [List.getElem_cons_zero] at hy
      obtain ⟨t2, A2, c2, hv2, ht2, _⟩ := hy.open_
      injection hv2 with e
      injection e with e
      injection e with e0 e
      injection e with e1 e
      injection e0 with _ e0
      injection e1 with e1
      subst e0 e1
      have hpos : (0 : Int) < ((Sx.mk k1 T2 l2 :: r).length : Int) := by simp
      have d0 : (((Sx.mk k1 T2 l2 :: r).length : Int) == 0) = false := beq_eq_false_iff_ne.2 (by omega)
      have d1 : (0 : Nat) < (Sx.mk k1 T2 l2 :: r).length := Nat.zero_lt_succ _
      generalize hL : (Sx.mk k1 T2 l2 :: r).length = L at *
      rw [Nat.zero_mul, Nat.add_zero] at y0 y1 y2
      by_cases h0 : k1 = 0
      · subst h0
        have HE := Lib.hid (show R = byts t1 by rw [← hR, ht2, head_list, if_pos rfl])
        clear hR HK hy hL ht2
        go_enter Try.func23, Try.ntmps23
        go_wp2
        go_ret
        exact ⟨⟨_, rfl, HE.out.symm⟩, HB0.out⟩
      · have b0 : (k1 != 0) = true := bne_iff_ne.2 h0
        have b0' : (k1 == 0) = false := beq_eq_false_iff_ne.2 h0
        have HE := Lib.hid (show R = [] by rw [← hR, head_list, if_neg h0])
        clear hR HK hy hL ht2 h0
        go_enter Try.func23, Try.ntmps23
        go_wp2
        go_ret
        exact ⟨⟨⟨#[]⟩, rfl, by rw [HE.out]⟩, HB0.out⟩
  · have b3 : (k != 3) = true := bne_iff_ne.2 h3
    have b3' : (k == 3) = false := beq_eq_false_iff_ne.2 h3
    have HE := Lib.hid (show R = [] by rw [← hR]; unfold Sx.head; dsimp only; rw [if_neg h3])
    clear hR HK h3
    go_enter Try.func23, Try.ntmps23
    go_wp2
    go_ret
    exact ⟨⟨⟨#[]⟩, rfl, by rw [HE.out]⟩, HB0.out⟩
end Go.Proofs.Ytephhendkmhggaa

/- How great an expression is in all. -/
namespace Go.Proofs.Ytephhendkmhggaa
open Go.RowKit

mutual
def Sx.mass : Sx → Nat
  | .mk _ t l => 1 + t.length + Sx.masses l
def Sx.masses : List Sx → Nat
  | [] => 0
  | x :: r => x.mass + Sx.masses r
end
mutual
theorem size_le : ∀ x : Sx, x.size ≤ x.mass
  | .mk k t l => by rw [Sx.size, Sx.mass]; exact sizes_le l _
theorem sizes_le : ∀ (l : List Sx) (n : Nat), Sx.sizes l n ≤ n + Sx.masses l
  | [], n => by rw [Sx.sizes, Sx.masses]; exact Nat.le_refl _
  | x :: r, n => by
    have h1 := size_le x
    have h2 := sizes_le r (n + x.size)
    rw [Sx.sizes, Sx.masses]
    split <;> omega
end
mutual
theorem mass_le : ∀ x : Sx, x.size ≤ 4000 → x.mass ≤ x.size
  | .mk k t l => by rw [Sx.size, Sx.mass]; exact masses_le l _
theorem masses_le : ∀ (l : List Sx) (n : Nat), Sx.sizes l n ≤ 4000 → n + Sx.masses l ≤ Sx.sizes l n
  | [], n => by rw [Sx.sizes, Sx.masses]; exact fun _ => Nat.le_refl _
  | x :: r, n => by
    have h1 := mass_le x
    have h2 := masses_le r (n + x.size)
    rw [Sx.sizes, Sx.masses]
    split
    · intro h
      have := h2 h
      have := h1 (by omega)
      omega
    · intro h; omega
end
mutual
theorem depth_mass : ∀ x : Sx, x.depth ≤ x.mass
  | .mk k t l => by have := depths_mass l; rw [Sx.depth, Sx.mass]; split <;> omega
theorem depths_mass : ∀ l : List Sx, Sx.depths l ≤ Sx.masses l
  | [] => by rw [Sx.depths, Sx.masses]; exact Nat.le_refl _
  | x :: r => by have := depth_mass x; have := depths_mass r; rw [Sx.depths, Sx.masses]; omega
end
mutual
theorem fits_mass : ∀ x : Sx, x.mass ≤ 1000000 → x.fits
  | .mk k t l => by rw [Sx.fits, Sx.mass]; exact fun h => ⟨by omega, fitss_mass l (by omega)⟩
theorem fitss_mass : ∀ l : List Sx, Sx.masses l ≤ 1000000 → Sx.fitss l
  | [] => by rw [Sx.fitss]; exact fun _ => trivial
  | x :: r => by rw [Sx.fitss, Sx.masses]; exact fun h => ⟨fits_mass x (by omega), fitss_mass r (by omega)⟩
end
mutual
theorem small_mass : ∀ x : Sx, x.mass ≤ 2000000 → x.small
  | .mk k t l => by rw [Sx.small, Sx.mass]; exact fun h => ⟨by omega, smalls_mass l (by omega)⟩
theorem smalls_mass : ∀ l : List Sx, Sx.masses l ≤ 2000000 → Sx.smalls l
  | [] => by rw [Sx.smalls]; exact fun _ => trivial
  | x :: r => by
    rw [Sx.smalls, Sx.masses]
    intro h
    have := size_le x
    exact ⟨⟨by omega, small_mass x (by omega)⟩, smalls_mass r (by omega)⟩
end
theorem quoteL_len (t : List UInt8) : (quoteL t).length ≤ t.length + 2 := by unfold quoteL; split <;> simp
mutual
theorem print_mass : ∀ x : Sx, x.print.length + 1 ≤ 4 * x.mass
  | .mk k t l => by
    have h1 := prints_mass l
    have h2 := quoteL_len t
    rw [Sx.print, Sx.mass]
    split
    · omega
    · split
      · rw [List.length_cons]; omega
      · split
        · rw [List.length_cons, List.length_append, List.length_singleton]; omega
        · omega
theorem prints_mass : ∀ l : List Sx, (Sx.prints l).length ≤ 4 * Sx.masses l
  | [] => by rw [Sx.prints]; exact Nat.zero_le _
  | x :: r => by
    have h1 := print_mass x
    have h2 := tails_mass r
    rw [Sx.prints, Sx.masses, List.length_append]
    omega
theorem tails_mass : ∀ l : List Sx, (Sx.tails l).length ≤ 4 * Sx.masses l
  | [] => by rw [Sx.tails]; exact Nat.zero_le _
  | x :: r => by
    have h1 := print_mass x
    have h2 := tails_mass r
    rw [Sx.tails, Sx.masses, List.length_cons, List.length_append]
    omega
end

/-- The reference's Great. -/
def Sx.great (x : Sx) : Bool := decide (200 < x.depth) || decide (4000 < x.size)
theorem great_mass {x : Sx} (h : x.great = false) : x.mass ≤ 4000 ∧ x.depth ≤ 200 := by
  unfold Sx.great at h
  rw [Bool.or_eq_false_iff, decide_eq_false_iff_not, decide_eq_false_iff_not] at h
  have := mass_le x (by omega)
  exact ⟨by omega, by omega⟩
theorem great3_ok {S : Nat → Prop} (x : Sx) (hm : x.mass ≤ 2000000) (v : Value) (w : World) (hv : Lies S w v x) :
    Calls Try.prog 14 #[v] w fun e w' => e = .returned (.bool x.great) ∧ Below w.heap.size w w' := by
  have h1 := depth_mass x
  have h2 := size_le x
  exact great_ok x (by omega) (fun _ => ⟨small_mass x hm, by omega⟩) v w hv
end Go.Proofs.Ytephhendkmhggaa

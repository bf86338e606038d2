/- Steps, proofs, as expressions: the plain side. -/
import Derived.Test.YtiklliiamljogaaGreatDoorRefA
import Derived.Test.YtiklliiamljogaaGreatDoorBackP
import Derived.Test.YtiklliiamljogaaGreatDoorClI
namespace Go.Proofs.YtiklliiamljogaaGreatDoor
open Go.RowKit

structure Stp where
  k : Int
  a : Int
  b : Int
  l : List Int

def fitN (n : Int) : Bool := decide (0 ≤ n) && decide (n ≤ 1073741824)
def manyK (k : Int) : Nat := if k = 2 then 2 else if k = 0 ∨ k = 1 then 1 else 0
def Stp.ab (s : Stp) : Bool := if manyK s.k = 0 then s.a == 0 && s.b == 0 else if manyK s.k = 1 then s.b == 0 else decide (s.a < s.b)
/-- May a step be? -/
def Stp.may (s : Stp) : Bool := decide (0 ≤ s.k) && (decide (s.k < 6) && ((s.l == makeM s.l) && (fitN s.a && (fitN s.b && (s.l.all fitN && s.ab)))))
def headK (k : Int) : List UInt8 := if k = 0 then [117, 110, 105, 116] else if k = 1 then [115, 104, 97, 112, 101] else if k = 2 then [115, 104, 97, 114, 101] else if k = 3 then [101, 117, 102] else if k = 4 then [105, 100, 108] else [114, 117, 112]
def symS (t : List UInt8) : Sx := .mk 0 t []
def numS (n : Int) : Sx := .mk 1 (Lib.itoa n) []
def Stp.nums (s : Stp) : List Int := [s.a, s.b].take (manyK s.k)
def Stp.sx (s : Stp) : Sx := .mk 3 [] (symS (headK s.k) :: (s.nums.map numS ++ [.mk 3 [] (s.l.map numS)]))
def wProof : List UInt8 := [112, 114, 111, 111, 102]
def proofX (l : List Stp) : Sx := .mk 3 [] (symS wProof :: l.map Stp.sx)

def numP : Sx → Option Int
  | .mk k t l => if (parseN t).2 = 0 ∧ k = 1 ∧ l = [] then some (parseN t).1 else none
/-- A number, or -1. -/
def numQ (x : Sx) : Int := (numP x).getD (-1)
/-- All of a list, or none. -/
def allP {α β : Type} (f : α → Option β) : List α → Option (List β)
  | [] => some []
  | x :: r => match f x with
    | none => none
    | some y => match allP f r with
      | none => none
      | some l => some (y :: l)
def isList : Sx → Bool
  | .mk k t _ => k == 3 && t.isEmpty
def kindT (t : List UInt8) : Option Int :=
  if t = headK 0 then some 0 else if t = headK 1 then some 1 else if t = headK 2 then some 2 else if t = headK 3 then some 3 else if t = headK 4 then some 4 else if t = headK 5 then some 5 else none
def kindOf : Sx → Option Int
  | .mk k t l => if k = 0 ∧ l = [] then kindT t else none
def stepOf (q : Int) (ns ls : List Int) : Stp := ⟨q, ns.getD 0 0, ns.getD 1 0, ls⟩
def noSx : Sx := .mk 0 [] []
/-- A step's expression read. -/
def stepP : Sx → Option Stp
  | .mk k t l => if k = 3 ∧ t = [] then match l with
    | [] => none
    | h :: r => match kindOf h with
      | none => none
      | some q => if r.length = manyK q + 1 ∧ isList (r.getD (manyK q) noSx) = true then match allP numP (r.take (manyK q)), allP numP (r.getD (manyK q) noSx).kids with
        | some ns, some ls => if (stepOf q ns ls).may = true then some (stepOf q ns ls) else none
        | _, _ => none
        else none
    else none
def parseP : Sx → Option (List Stp)
  | .mk k t l => if k = 3 ∧ t = [] ∧ l.length ≤ 4194305 then match l with
    | [] => none
    | h :: r => if h.same (symS wProof) = true then allP stepP r else none
    else none
def readS (L : List UInt8) : Option (List Stp) := if (allM L).2.2 = 0 then match (allM L).1 with
  | [x] => parseP x
  | _ => none
  else none

section
variable {α β : Type} {f : α → Option β}
theorem allP_map {g : β → α} : ∀ {l : List β}, (∀ y ∈ l, f (g y) = some y) → allP f (l.map g) = some l
  | [], _ => rfl
  | y :: r, h => by
    rw [List.map_cons, allP, h y (by simp)]
    dsimp only
    rw [allP_map (l := r) fun z hz => h z (by simp [hz])]
theorem allP_len : ∀ {l : List α} {r : List β}, allP f l = some r → r.length = l.length
  | [], r, h => by injection h with h; subst h; rfl
  | x :: l, r, h => by
    rw [allP] at h
    split at h
    · cases h
    · split at h
      · cases h
      · rename_i hl
        injection h with h
        rw [← h, List.length_cons, List.length_cons, allP_len hl]
theorem allP_append : ∀ (l m : List α), allP f (l ++ m) = (allP f l).bind fun a => (allP f m).map fun b => a ++ b
  | [], m => by
    show allP f m = (some []).bind _
    cases allP f m <;> rfl
  | x :: l, m => by
    show allP f (x :: (l ++ m)) = _
    rw [allP, allP]
    cases f x with
    | none => rfl
    | some y =>
      dsimp only
      rw [allP_append l m]
      cases allP f l with
      | none => rfl
      | some a =>
        cases allP f m with
        | none => rfl
        | some b => rfl
theorem allP_step {l : List α} {i : Nat} (hi : i < l.length) {acc : List β} (h : allP f (l.take i) = some acc) {y : β} (hy : f l[i] = some y) : allP f (l.take (i + 1)) = some (acc ++ [y]) := by
  rw [List.take_succ_eq_append_getElem hi, allP_append, h, allP, hy]
  rfl
theorem allP_none {l : List α} {i : Nat} (hi : i < l.length) (hy : f l[i] = none) : allP f l = none := by
  rw [← List.take_append_drop i l, allP_append, List.drop_eq_getElem_cons hi]
  cases allP f (l.take i) with
  | none => rfl
  | some a => rw [allP, hy]; rfl
theorem allP_mem : ∀ {l : List α} {r : List β}, allP f l = some r → ∀ y ∈ r, ∃ x ∈ l, f x = some y
  | [], r, h, y, hy => by injection h with h; rw [← h] at hy; cases hy
  | x :: l, r, h, y, hy => by
    rw [allP] at h
    split at h
    · cases h
    · rename_i z hz
      split at h
      · cases h
      · rename_i m hl
        injection h with h
        rw [← h] at hy
        rcases List.mem_cons.1 hy with rfl | hy
        · exact ⟨x, by simp, hz⟩
        · obtain ⟨x', h1, h2⟩ := allP_mem hl y hy
          exact ⟨x', by simp [h1], h2⟩
end

theorem fit_iff (n : Int) : fitN n = true ↔ 0 ≤ n ∧ n ≤ 1073741824 := by
  unfold fitN
  rw [Bool.and_eq_true, decide_eq_true_eq, decide_eq_true_eq]
theorem num_sx {n : Int} (h : fitN n = true) : numP (numS n) = some n := by
  have h1 := (fit_iff n).1 h
  show (if (parseN (Lib.itoa n)).2 = 0 ∧ (1 : Int) = 1 ∧ ([] : List Sx) = [] then some (parseN (Lib.itoa n)).1 else none) = _
  rw [parse_itoa n h1.1 (by omega), if_pos ⟨rfl, rfl, rfl⟩]
/-- All numbers as the program takes them: -1 for those that are none. -/
theorem numQ_all : ∀ (l : List Sx), (∃ r, allP numP l = some r ∧ l.map numQ = r) ∨ (allP numP l = none ∧ (l.map numQ).all fitN = false)
  | [] => .inl ⟨[], rfl, rfl⟩
  | x :: l => by
    cases hx : numP x with
    | none =>
      refine .inr ⟨by rw [allP, hx], ?_⟩
      rw [List.map_cons, List.all_cons]
      have : numQ x = -1 := by unfold numQ; rw [hx]; rfl
      rw [this]
      rfl
    | some n =>
      have hq : numQ x = n := by unfold numQ; rw [hx]; rfl
      rcases numQ_all l with ⟨r, h1, h2⟩ | ⟨h1, h2⟩
      · exact .inl ⟨n :: r, by rw [allP, hx, h1], by rw [List.map_cons, hq, h2]⟩
      · exact .inr ⟨by rw [allP, hx, h1], by rw [List.map_cons, List.all_cons, h2, Bool.and_false]⟩
theorem may_iff (s : Stp) : s.may = true ↔ 0 ≤ s.k ∧ s.k < 6 ∧ s.l = makeM s.l ∧ fitN s.a = true ∧ fitN s.b = true ∧ s.l.all fitN = true ∧ s.ab = true := by
  unfold Stp.may
  simp only [Bool.and_eq_true, decide_eq_true_eq, beq_iff_eq]
theorem kind_sx {k : Int} (h0 : 0 ≤ k) (h1 : k < 6) : kindOf (symS (headK k)) = some k := by
  have : k = 0 ∨ k = 1 ∨ k = 2 ∨ k = 3 ∨ k = 4 ∨ k = 5 := by omega
  rcases this with rfl | rfl | rfl | rfl | rfl | rfl <;> rfl
theorem step_sx {s : Stp} (h : s.may = true) : stepP s.sx = some s := by
  obtain ⟨h0, h1, _, ha, hb, hl, hab⟩ := (may_iff s).1 h
  have hn : s.nums.length = manyK s.k := by
    have : manyK s.k ≤ 2 := by unfold manyK; split <;> (try split) <;> omega
    unfold Stp.nums
    rw [List.length_take]
    simp
    omega
  have hnf : ∀ y ∈ s.nums, numP (numS y) = some y := fun y hy => by
    have := List.mem_of_mem_take hy
    rcases List.mem_cons.1 this with rfl | h2
    · exact num_sx ha
    · rw [List.mem_singleton.1 h2]; exact num_sx hb
  have hlf : ∀ y ∈ s.l, numP (numS y) = some y := fun y hy => num_sx (List.all_eq_true.1 hl y hy)
  have ht : (s.nums.map numS ++ [Sx.mk 3 [] (s.l.map numS)]).take (manyK s.k) = s.nums.map numS := by
    rw [← hn, ← List.length_map (f := numS)]
    exact List.take_left
  have hg : (s.nums.map numS ++ [Sx.mk 3 [] (s.l.map numS)]).getD (manyK s.k) noSx = Sx.mk 3 [] (s.l.map numS) := by
    rw [List.getD_eq_getElem?_getD, ← hn, ← List.length_map (f := numS), List.getElem?_append_right (Nat.le_refl _)]
    simp
  have hs : stepOf s.k s.nums s.l = s := by
    obtain ⟨k, a, b, l⟩ := s
    unfold stepOf Stp.nums
    unfold Stp.ab at hab
    dsimp only at *
    have : manyK k = 0 ∨ manyK k = 1 ∨ manyK k = 2 := by unfold manyK; split <;> (try split) <;> omega
    rcases this with h3 | h3 | h3
    · rw [h3] at hab ⊢
      rw [if_pos rfl, Bool.and_eq_true, beq_iff_eq, beq_iff_eq] at hab
      rw [hab.1, hab.2]
      rfl
    · rw [h3] at hab ⊢
      rw [if_neg (by decide), if_pos rfl, beq_iff_eq] at hab
      rw [hab]
      rfl
    · rw [h3]
      rfl
  unfold Stp.sx stepP
  dsimp only
  rw [if_pos ⟨rfl, rfl⟩]
  rw [kind_sx h0 h1]
  dsimp only
  rw [if_pos ⟨by rw [List.length_append, List.length_map, hn]; rfl, by rw [hg]; rfl⟩, ht, hg]
  show (match allP numP (s.nums.map numS), allP numP (s.l.map numS) with
    | some ns, some ls => if (stepOf s.k ns ls).may = true then some (stepOf s.k ns ls) else none
    | _, _ => none) = some s
  rw [allP_map hnf, allP_map hlf]
  dsimp only
  rw [hs, if_pos h]
/-- What was written is read. -/
theorem parse_proof {l : List Stp} (h : ∀ s ∈ l, s.may = true) (hl : l.length ≤ 4194304) : parseP (proofX l) = some l := by
  unfold proofX parseP
  dsimp only
  rw [if_pos ⟨rfl, rfl, by rw [List.length_cons, List.length_map]; omega⟩]
  rw [if_pos ((Sx.same_eq _ _).2 rfl)]
  exact allP_map fun s hs => step_sx (h s hs)
theorem step_may {x : Sx} {s : Stp} (h : stepP x = some s) : s.may = true := by
  obtain ⟨k, t, l⟩ := x
  unfold stepP at h
  dsimp only at h
  split at h
  · split at h
    · cases h
    · split at h
      · cases h
      · split at h
        · split at h
          · split at h
            · rename_i hm
              injection h with h
              rw [← h]; exact hm
            · cases h
          · cases h
        · cases h
  · cases h
theorem parse_may {x : Sx} {l : List Stp} (h : parseP x = some l) : ∀ s ∈ l, s.may = true := fun s hs => by
  obtain ⟨k, t, m⟩ := x
  unfold parseP at h
  dsimp only at h
  split at h
  · split at h
    · cases h
    · split at h
      · obtain ⟨y, _, hy⟩ := allP_mem h s hs
        exact step_may hy
      · cases h
  · cases h

/-! ### The text -/
mutual
/-- An expression's text, of whatever length, nothing quoted. -/
def Sx.raw : Sx → List UInt8
  | .mk k t l => if k = 3 then 40 :: (Sx.raws l ++ [41]) else t
def Sx.raws : List Sx → List UInt8
  | [] => []
  | x :: r => x.raw ++ Sx.rawt r
def Sx.rawt : List Sx → List UInt8
  | [] => []
  | x :: r => 32 :: (x.raw ++ Sx.rawt r)
end
mutual
/-- Nothing in it is quoted. -/
def Sx.bare : Sx → Prop
  | .mk k t l => (k = 3 ∨ k = 1 ∨ k = 0 ∧ quoteL t = t) ∧ Sx.bares l
def Sx.bares : List Sx → Prop
  | [] => True
  | x :: r => x.bare ∧ Sx.bares r
end
mutual
theorem raw_print : ∀ x : Sx, x.bare → x.raw = x.print
  | .mk k t l => by
    rw [Sx.bare, Sx.raw, Sx.print]
    rintro ⟨h | h | ⟨h, hq⟩, hl⟩
    · subst h
      rw [if_pos rfl, if_neg (by decide), if_neg (by decide), if_pos rfl, raws_print l hl]
    · subst h
      rw [if_neg (by decide), if_neg (by decide), if_neg (by decide), if_neg (by decide)]
    · subst h
      rw [if_neg (by decide), if_pos rfl, hq]
theorem raws_print : ∀ l : List Sx, Sx.bares l → Sx.raws l = Sx.prints l
  | [], _ => by rw [Sx.raws, Sx.prints]
  | x :: r, h => by rw [Sx.bares] at h; rw [Sx.raws, Sx.prints, raw_print x h.1, rawt_print r h.2]
theorem rawt_print : ∀ l : List Sx, Sx.bares l → Sx.rawt l = Sx.tails l
  | [], _ => by rw [Sx.rawt, Sx.tails]
  | x :: r, h => by rw [Sx.bares] at h; rw [Sx.rawt, Sx.tails, raw_print x h.1, rawt_print r h.2]
end
theorem bares_mem : ∀ {l : List Sx}, (∀ x ∈ l, x.bare) → Sx.bares l
  | [], _ => by rw [Sx.bares]; trivial
  | x :: r, h => by rw [Sx.bares]; exact ⟨h x (by simp), bares_mem fun y hy => h y (by simp [hy])⟩
theorem quote_head (k : Int) : quoteL (headK k) = headK k ∧ mayL (headK k) = true := by
  unfold headK
  split
  · decide +kernel
  · split
    · decide +kernel
    · split
      · decide +kernel
      · split
        · decide +kernel
        · split <;> decide +kernel
theorem num_bare (n : Int) : (numS n).bare := by unfold numS; rw [Sx.bare, Sx.bares]; exact ⟨.inr (.inl rfl), trivial⟩
theorem step_bare (s : Stp) : s.sx.bare := by
  unfold Stp.sx
  rw [Sx.bare, Sx.bares]
  refine ⟨.inl rfl, ?_, bares_mem fun x hx => ?_⟩
  · unfold symS; rw [Sx.bare, Sx.bares]; exact ⟨.inr (.inr ⟨rfl, (quote_head s.k).1⟩), trivial⟩
  · rcases List.mem_append.1 hx with hx | hx
    · obtain ⟨n, _, rfl⟩ := List.mem_map.1 hx; exact num_bare n
    · rw [List.mem_singleton.1 hx, Sx.bare]
      exact ⟨.inl rfl, bares_mem fun y hy => by obtain ⟨n, _, rfl⟩ := List.mem_map.1 hy; exact num_bare n⟩
theorem proof_bare (l : List Stp) : (proofX l).bare := by
  unfold proofX
  rw [Sx.bare, Sx.bares]
  refine ⟨.inl rfl, ?_, bares_mem fun x hx => ?_⟩
  · unfold symS; rw [Sx.bare, Sx.bares]; exact ⟨.inr (.inr ⟨rfl, by decide +kernel⟩), trivial⟩
  · obtain ⟨s, _, rfl⟩ := List.mem_map.1 hx; exact step_bare s

theorem standss_all : ∀ {l : List Sx}, (∀ x ∈ l, x.stands = true) → Sx.standss l = true
  | [], _ => by rw [Sx.standss]
  | x :: r, h => by rw [Sx.standss, h x (by simp), standss_all fun y hy => h y (by simp [hy])]; rfl
theorem num_stands {n : Int} (h : fitN n = true) : (numS n).stands = true := by
  have h1 := (fit_iff n).1 h
  obtain ⟨u, rfl⟩ := Int.eq_ofNat_of_zero_le h1.1
  have h2 := itoa_len h1.1 h1.2
  unfold numS
  rw [Sx.stands, if_neg (by decide), if_pos rfl, decide_eq_true (show (Lib.itoa (u : Int)).length ≤ 100 by omega), Lib.itoa_nonneg, num_dec]
  rfl
theorem nums_fit {s : Stp} (h : s.may = true) : ∀ n ∈ s.nums, fitN n = true := fun n hn => by
  obtain ⟨_, _, _, ha, hb, _⟩ := (may_iff s).1 h
  rcases List.mem_cons.1 (List.mem_of_mem_take hn) with rfl | h2
  · exact ha
  · rw [List.mem_singleton.1 h2]; exact hb
theorem step_stands {s : Stp} (h : s.may = true) : s.sx.stands = true := by
  obtain ⟨_, _, _, _, _, hl, _⟩ := (may_iff s).1 h
  unfold Stp.sx
  rw [Sx.stands, if_neg (by decide), if_neg (by decide), if_neg (by decide), if_pos rfl]
  rw [standss_all]
  · rfl
  · intro x hx
    rcases List.mem_cons.1 hx with rfl | hx
    · unfold symS; rw [Sx.stands, if_pos rfl, (quote_head s.k).2]; rfl
    · rcases List.mem_append.1 hx with hx | hx
      · obtain ⟨n, hn, rfl⟩ := List.mem_map.1 hx; exact num_stands (nums_fit h n hn)
      · rw [List.mem_singleton.1 hx, Sx.stands, if_neg (by decide), if_neg (by decide), if_neg (by decide), if_pos rfl, standss_all]
        · rfl
        · intro y hy
          obtain ⟨n, hn, rfl⟩ := List.mem_map.1 hy
          exact num_stands (List.all_eq_true.1 hl n hn)
theorem depths_le : ∀ {l : List Sx} {d : Nat}, (∀ x ∈ l, x.depth ≤ d) → Sx.depths l ≤ d
  | [], d, _ => by rw [Sx.depths]; exact Nat.zero_le _
  | x :: r, d, h => by rw [Sx.depths]; exact Nat.max_le.2 ⟨h x (by simp), depths_le fun y hy => h y (by simp [hy])⟩
theorem num_depth (n : Int) : (numS n).depth = 0 := by unfold numS; rw [Sx.depth, if_neg (by decide)]
theorem step_depth (s : Stp) : s.sx.depth ≤ 2 := by
  unfold Stp.sx
  rw [Sx.depth, if_pos rfl]
  refine Nat.succ_le_succ (depths_le fun x hx => ?_)
  rcases List.mem_cons.1 hx with rfl | hx
  · unfold symS; rw [Sx.depth, if_neg (by decide)]; exact Nat.zero_le _
  · rcases List.mem_append.1 hx with hx | hx
    · obtain ⟨n, _, rfl⟩ := List.mem_map.1 hx; rw [num_depth]; exact Nat.zero_le _
    · rw [List.mem_singleton.1 hx, Sx.depth, if_pos rfl]
      refine Nat.succ_le_succ (depths_le fun y hy => ?_)
      obtain ⟨n, _, rfl⟩ := List.mem_map.1 hy
      rw [num_depth]
      exact Nat.le_refl _
theorem proof_may {l : List Stp} (h : ∀ s ∈ l, s.may = true) : (proofX l).may = true := by
  unfold Sx.may
  have h1 : (proofX l).depth ≤ 60 := by
    unfold proofX
    rw [Sx.depth, if_pos rfl]
    have : Sx.depths (symS wProof :: l.map Stp.sx) ≤ 2 := depths_le fun x hx => by
      rcases List.mem_cons.1 hx with rfl | hx
      · unfold symS; rw [Sx.depth, if_neg (by decide)]; exact Nat.zero_le _
      · obtain ⟨s, _, rfl⟩ := List.mem_map.1 hx; exact step_depth s
    omega
  rw [decide_eq_true h1, Bool.true_and]
  unfold proofX
  rw [Sx.stands, if_neg (by decide), if_neg (by decide), if_neg (by decide), if_pos rfl, standss_all]
  · rfl
  · intro x hx
    rcases List.mem_cons.1 hx with rfl | hx
    · unfold symS; rw [Sx.stands, if_pos rfl]; decide +kernel
    · obtain ⟨s, hs, rfl⟩ := List.mem_map.1 hx; exact step_stands (h s hs)
end Go.Proofs.YtiklliiamljogaaGreatDoor

/- fits, forms; steps as they lie. -/
namespace Go.Proofs.YtiklliiamljogaaGreatDoor
open Go.RowKit

/-! ### fits -/
theorem fits_ok (n : Int) (w : World) : Calls Tryz.prog 43 #[.int .i64 n] w fun e w' => e = .returned (.bool (fitN n)) ∧ w = w' := by
  unfold fitN
  by_cases h0 : 0 ≤ n
  · have d0 : decide (n ≥ 0) = true := decide_eq_true h0
    have d0' : decide (0 ≤ n) = true := d0
    rw [d0', Bool.true_and]
    go_enter Tryz.func43, Tryz.ntmps43
    go_wp2
    go_ret
    exact ⟨rfl, rfl⟩
  · have d0 : decide (n ≥ 0) = false := decide_eq_false h0
    have d0' : decide (0 ≤ n) = false := d0
    rw [d0', Bool.false_and]
    go_enter Tryz.func43, Tryz.ntmps43
    go_wp2
    go_ret
    exact ⟨rfl, rfl⟩
theorem fits1_ok (n : Int) (w : World) : Calls Tryz.prog 45 #[.int .i64 n] w fun e w' => e = .returned (.bool (!fitN n)) ∧ w = w' := by
  have HF := Lib.hid (fits_ok n w)
  obtain ⟨q, hq⟩ : ∃ q, fitN n = q := ⟨_, rfl⟩
  rw [hq] at HF ⊢
  go_enter Tryz.func45, Tryz.ntmps45
  go_wp2_with (go_at_call 43; refine HF.out.mono ?_; rintro e w1 ⟨rfl, rfl⟩)
  go_ret
  exact ⟨rfl, rfl⟩
def nofit (x : Int) : Bool := !fitN x
theorem any_nofit (zs : List Int) : zs.any nofit = !zs.all fitN := by
  induction zs with
  | nil => rfl
  | cons x r ih => rw [List.any_cons, List.all_cons, ih, Bool.not_and]; rfl
theorem indexf_fits {w : World} {A : Option Addr} {zs : List Int} (cap : Nat) (h : Row .i64 w A zs) :
    Calls Tryz.prog 68 #[.slice A zs.length cap, .func (.func 45) #[] #[]] w fun e w' => e = .returned (.int .i64 (idxF nofit zs 0)) ∧ w = w' := by
  have hlen := h.len
  have H := Lib.hid h
  clear h
  go_enter Tryz.func68, Tryz.ntmps68
  go_wp2
  go_loopg [8] zs.length (fun g v wx => w = wx ∧ ∃ i : Nat, i + g = zs.length ∧ v = .int .i64 i ∧ idxF nofit (zs.drop i) i = idxF nofit zs 0)
  case atStart => exact ⟨rfl, 0, by omega, rfl, rfl⟩
  case round =>
    obtain ⟨rfl, i, hig, rfl, hinv⟩ := hrel
    have HI := Lib.hid hinv
    clear hinv
    cases gk with
    | zero =>
      have d1 : decide ((i : Int) < zs.length) = false := by simp; omega
      have HN := Lib.hid (show zs.drop i = [] from List.drop_eq_nil_of_le (by omega))
      go_wp2
      go_ret
      rw [← HI.out, HN.out]
      exact ⟨rfl, rfl⟩
    | succ k =>
      have hin : i < zs.length := by omega
      have d1 : decide ((i : Int) < zs.length) = true := by simp; omega
      obtain ⟨b, off, hA, hb, hcell⟩ := H.out.at_.resolve_left (by omega)
      subst hA
      have c0 := hcell i hin
      have Hdr := Lib.hid (show zs.drop i = zs[i] :: zs.drop (i + 1) from List.drop_eq_getElem_cons hin)
      clear hcell
      generalize zs[i] = x at *
      cases hp : fitN x with
      | false =>
        have Hp := Lib.hid hp
        clear hp
        go_wp2_with (go_at_call 45; refine (fits1_ok x w).mono ?_; rintro e w1 ⟨rfl, rfl⟩; rw [Hp.out])
        go_ret
        rw [← HI.out, Hdr.out]
        unfold idxF
        rw [if_pos (show nofit x = true by unfold nofit; rw [Hp.out]; rfl)]
        exact ⟨rfl, rfl⟩
      | true =>
        have Hp := Lib.hid hp
        clear hp
        go_wp2_with (go_at_call 45; refine (fits1_ok x w).mono ?_; rintro e w1 ⟨rfl, rfl⟩; rw [Hp.out])
        go_roundg k
        case measure => omega
        case rel => exact ⟨rfl, i + 1, by omega, by go_num, by rw [← HI.out, Hdr.out]; conv => rhs; unfold idxF; rw [if_neg (by unfold nofit; rw [Hp.out]; decide)]⟩
theorem containsf_fits {w : World} {A : Option Addr} {zs : List Int} (cap : Nat) (h : Row .i64 w A zs) :
    Calls Tryz.prog 44 #[.slice A zs.length cap, .func (.func 45) #[] #[]] w fun e w' => e = .returned (.bool (!zs.all fitN)) ∧ w = w' := by
  rw [← any_nofit, ← idxF_any nofit zs 0]
  have H := Lib.hid h
  clear h
  go_enter Tryz.func44, Tryz.ntmps44
  go_wp2_with (go_at_call 68; refine (indexf_fits cap H.out).mono ?_; rintro e w1 ⟨rfl, rfl⟩)
  go_ret
  exact ⟨rfl, rfl⟩

/-! ### forms -/
def formCells : Array Value := #[.string ⟨#[117, 110, 105, 116]⟩, .int .i64 1, .string ⟨#[115, 104, 97, 112, 101]⟩, .int .i64 1, .string ⟨#[115, 104, 97, 114, 101]⟩, .int .i64 2, .string ⟨#[101, 117, 102]⟩, .int .i64 0, .string ⟨#[105, 100, 108]⟩, .int .i64 0, .string ⟨#[114, 117, 112]⟩, .int .i64 0]
set_option maxRecDepth 100000 in
theorem forms_ok (w : World) : Calls Tryz.prog 41 #[] w fun e w' => e = .returned (.slice (some ⟨w.heap.size, 0, none⟩) 6 6) ∧ Blk w' w.heap.size 70 formCells ∧ Below w.heap.size w w' := by
  go_enter Tryz.func41, Tryz.ntmps41
  go_wp2
  go_ret
  exact ⟨rfl, Blk.new w 70 formCells, (Below.refl _ w).alloc (Nat.le_refl _) _⟩

/-! ### Steps as they lie -/
/-- A step's four cells. -/
structure C4 where
  k : Int
  a : Int
  b : Int
  A : Option Addr
  n : Nat
  c : Nat
def C4.val (y : C4) : Value := .agg #[.int .i8 y.k, .int .i64 y.a, .int .i64 y.b, .slice y.A y.n y.c]
def C4.cells (y : C4) : List Value := [.int .i8 y.k, .int .i64 y.a, .int .i64 y.b, .slice y.A y.n y.c]
theorem C4.cells_len (y : C4) : y.cells.length = 4 := rfl
/-- Its cells are a step's. -/
structure Is4 (w : World) (y : C4) (s : Stp) : Prop where
  k : y.k = s.k
  a : y.a = s.a
  b : y.b = s.b
  n : y.n = s.l.length
  c : y.n ≤ y.c
  nil : y.A = none → y.c = 0
  row : Row .i64 w y.A s.l
theorem Is4.keep {w w' : World} {y : C4} {s : Stp} (h : Is4 w y s) (hb : Below w.heap.size w w') : Is4 w' y s := ⟨h.k, h.a, h.b, h.n, h.c, h.nil, h.row.below hb⟩
/-- A row of steps. -/
def Steps (w : World) (A : Option Addr) (L : List Stp) : Prop := ∀ i (hi : i < L.length), ∃ b off y, A = some ⟨b, off, none⟩ ∧ b < w.heap.size ∧
  (w.cell? ⟨b, off + i * 4, none⟩ = some (.int .i8 y.k) ∧ w.cell? ⟨b, off + i * 4 + 1, none⟩ = some (.int .i64 y.a) ∧ w.cell? ⟨b, off + i * 4 + 2, none⟩ = some (.int .i64 y.b) ∧ w.cell? ⟨b, off + i * 4 + 3, none⟩ = some (.slice y.A y.n y.c)) ∧ Is4 w y L[i]
theorem Steps.keep {w w' : World} {A : Option Addr} {L : List Stp} (h : Steps w A L) (hb : Below w.heap.size w w') : Steps w' A L := fun i hi => by
  obtain ⟨b, off, y, e, hlt, ⟨h0, h1, h2, h3⟩, hy⟩ := h i hi
  exact ⟨b, off, y, e, Nat.lt_of_lt_of_le hlt hb.size, ⟨(hb.cell (p := ⟨b, off + i * 4, none⟩) hlt).trans h0, (hb.cell (p := ⟨b, off + i * 4 + 1, none⟩) hlt).trans h1, (hb.cell (p := ⟨b, off + i * 4 + 2, none⟩) hlt).trans h2, (hb.cell (p := ⟨b, off + i * 4 + 3, none⟩) hlt).trans h3⟩, hy.keep hb⟩
end Go.Proofs.YtiklliiamljogaaGreatDoor

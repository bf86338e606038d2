/- append of rows of ints, wherever it stands. -/
import Derived.Test.YtiklliiamljogaaGreatDoorClI
import Derived.Lib.SlicesCompact
import Derived.Test.YtiklliiamljogaaGreatDoorSameRef
namespace Go.Proofs.YtiklliiamljogaaGreatDoor
open Go.RowKit Go.Lib

set_option maxRecDepth 100000 in
theorem wp_append_row {o : Oper} {a : Act} {K : Act → World → Prop} {Q : Exit → Act → World → Prop} (w : World) (s x : Operand)
    (ho : o.op = .call { callee := .builtin .append, args := #[s, x], argTypes := #[44, 44] })
    (base : Nat) (v : Value) (n : Nat) (xs : List Int) (hs : a.eval s = v) (hown : w.ownsRow base 3 1 v n (xs.map (Value.int .i64)))
    (A : Option Addr) (cap : Nat) (zs : List Int) (hx : a.eval x = .slice A zs.length cap) (hrow : Row .i64 w A zs) (hnil : A = none → cap = 0) (hb : n + zs.length ≤ 1000000) (hbase : base ≤ w.heap.size)
    (h : ∀ v' w', w'.ownsRow base 3 1 v' (n + zs.length) ((xs ++ zs).map (Value.int .i64)) → w.grownBy w' v.ownBlock → K (a.put o.dst v') w') : o.wp Tryz.prog a w K Q := by
  obtain ⟨i0, hi, hz0, hz1, hz2⟩ := info_parts int_info
  cases A with
  | none =>
    obtain rfl := hnil rfl
    have hz : zs = [] := by
      rcases hrow.at_ with h1 | ⟨b, off, h1, _⟩
      · exact List.eq_nil_of_length_eq_zero h1
      · cases h1
    subst hz
    have hrun := run_append_owned_none (P := Tryz.prog) (w := w) base 44 o.type 3 i0 1 Tryz.underlying44 hi v n _ hown
    have h1 := h v w (by rw [List.append_nil]; exact hown) ⟨rfl, rfl, rfl, Nat.le_refl _, fun _ _ _ => rfl⟩
    unfold Oper.wp execOp
    simp only [ho, resolve, invoke, builtin, Sem.run_bind, Sem.run_pure, Result.andThen_ok, List.map_toArray, List.map_cons, List.map_nil, hs, hx]
    simp only [List.length_nil] at hrun ⊢
    rw [hrun]
    exact h1
  | some ad =>
    have hnews : ∀ j u, (zs.map (Value.int .i64))[j]? = some u → w.cell? (ad.add j) = some u := by
      intro j u hj
      rw [List.getElem?_map] at hj
      have hjl : j < zs.length := by
        rcases Nat.lt_or_ge j zs.length with h1 | h1
        · exact h1
        · rw [List.getElem?_eq_none h1] at hj; cases hj
      rw [List.getElem?_eq_getElem hjl] at hj
      injection hj with hj
      rcases hrow.at_ with h1 | ⟨b, off, h1, _, hc⟩
      · omega
      · injection h1 with h1
        subst h1
        have h2 : (⟨b, off, none⟩ : Addr).add j = ⟨b, off + j, none⟩ := by unfold Addr.add; split <;> simp_all
        rw [h2, hc j hjl, ← hj]
    have h1c : ∀ u ∈ zs.map (Value.int .i64), u.oneCell' = true := by
      intro u hu
      obtain ⟨x, _, rfl⟩ := List.mem_map.1 hu
      rfl
    exact wp_append_own w s x 44 ho base 3 i0 (.int .i64 0) 1 8 Tryz.underlying44 hi hz0 hz1 hz2 rfl (by decide) v n _ hs hown ad zs.length cap _ hx (by simp) hnews h1c (by unfold maxLen; omega) (by omega) hbase
      fun v' w' h2 h3 _ => h v' w' (by rw [List.map_append]; exact h2) h3

set_option maxRecDepth 100000 in
theorem list_append_row {ops : Array Oper} {rest : List Oper} {o : Oper} {a : Act} {Q : Exit → Act → World → Prop} (w : World) (hw : Region.wanted o (yielded ops a.tmps) = true) (s x : Operand)
    (ho : o.op = .call { callee := .builtin .append, args := #[s, x], argTypes := #[44, 44] })
    (base : Nat) (v : Value) (n : Nat) (xs : List Int) (hs : a.eval s = v) (hown : w.ownsRow base 3 1 v n (xs.map (Value.int .i64)))
    (A : Option Addr) (cap : Nat) (zs : List Int) (hx : a.eval x = .slice A zs.length cap) (hrow : Row .i64 w A zs) (hnil : A = none → cap = 0) (hb : n + zs.length ≤ 1000000) (hbase : base ≤ w.heap.size)
    (h : ∀ v' w', w'.ownsRow base 3 1 v' (n + zs.length) ((xs ++ zs).map (Value.int .i64)) → w.grownBy w' v.ownBlock → wpList Tryz.prog ops Q rest (a.put o.dst v') w') : wpList Tryz.prog ops Q (o :: rest) a w :=
  wpList_step fun K hK => by
    rw [if_pos hw]
    exact wp_append_row w s x ho base v n xs hs hown A cap zs hx hrow hnil hb hbase fun v' w' h1 h2 => hK _ _ (h v' w' h1 h2)

set_option maxRecDepth 100000 in
theorem step_append_row {ops : Array Oper} {o : Oper} {a : Act} {K : Act → World → Prop} {Q : Exit → Act → World → Prop} {E : Prop} (w : World) (hgd : o.guard = none) (s x : Operand)
    (ho : o.op = .call { callee := .builtin .append, args := #[s, x], argTypes := #[44, 44] })
    (base : Nat) (v : Value) (n : Nat) (xs : List Int) (hs : a.eval s = v) (hown : w.ownsRow base 3 1 v n (xs.map (Value.int .i64)))
    (A : Option Addr) (cap : Nat) (zs : List Int) (hx : a.eval x = .slice A zs.length cap) (hrow : Row .i64 w A zs) (hnil : A = none → cap = 0) (hb : n + zs.length ≤ 1000000) (hbase : base ≤ w.heap.size)
    (h : ∀ v' w', w'.ownsRow base 3 1 v' (n + zs.length) ((xs ++ zs).map (Value.int .i64)) → w.grownBy w' v.ownBlock → K (a.put o.dst v') w') :
    if Region.wanted o (yielded ops a.tmps) = true then Oper.wp Tryz.prog o a w K Q else E := by
  have hw : Region.wanted o (yielded ops a.tmps) = true := by simp [Region.wanted, hgd]
  rw [if_pos hw]
  exact wp_append_row w s x ho base v n xs hs hown A cap zs hx hrow hnil hb hbase h

set_option maxRecDepth 100000 in
theorem own_empty (w : World) : (w.alloc (.cells #[] 3)).ownsRow w.heap.size 3 1 (.slice (some ⟨w.heap.size, 0, none⟩) 0 0) 0 (([] : List Int).map (Value.int .i64)) :=
  ⟨rfl, .inr ⟨w.heap.size, 0, #[], rfl, Nat.le_refl _, heap_alloc_new w _, Nat.le_refl _, Nat.zero_le _, rfl, rfl⟩⟩

end Go.Proofs.YtiklliiamljogaaGreatDoor

/- What is made of literals: in order, each once, just those that are not below 0. -/
namespace Go.Proofs.YtiklliiamljogaaGreatDoor
open Go.Lib

theorem keeps_iff (d : Array Int) (j : Nat) : keeps d j = true ↔ j = 0 ∨ d[j]! ≠ d[j - 1]! := by
  unfold keeps
  simp

theorem get_le {zs : List Int} (h : zs.Pairwise (· ≤ ·)) {i j : Nat} (hij : i ≤ j) (hj : j < zs.length) : zs[i]'(by omega) ≤ zs[j] := by
  rcases Nat.lt_or_ge i j with h1 | h1
  · exact List.pairwise_iff_getElem.1 h i j (by omega) hj h1
  · obtain rfl : i = j := by omega
    exact Int.le_refl _

theorem compact_lt {zs : List Int} (h : zs.Pairwise (· ≤ ·)) : (compact zs).Pairwise (· < ·) := by
  unfold compact compactUpTo
  rw [List.pairwise_map, List.pairwise_filter]
  refine List.Pairwise.imp_of_mem ?_ (List.pairwise_lt_range (n := zs.length))
  intro i j hi hj hij _ hk
  have hj' := List.mem_range.1 hj
  have hi' := List.mem_range.1 hi
  rcases (keeps_iff _ _).1 hk with h0 | h0
  · omega
  · have a1 := get_le h (show i ≤ j - 1 by omega) (show j - 1 < zs.length by omega)
    have a2 := get_le h (show j - 1 ≤ j by omega) hj'
    have e1 : zs.toArray[j]! = zs[j] := by simp [getElem!_pos, hj']
    have e2 : zs.toArray[j - 1]! = zs[j - 1] := by simp [getElem!_pos, show j - 1 < zs.length by omega]
    have e3 : zs.toArray[i]! = zs[i] := by simp [getElem!_pos, hi']
    rw [e1, e2] at h0
    show zs.toArray[i]! < zs.toArray[j]!
    rw [e1, e3]
    omega

theorem mem_compact {zs : List Int} (x : Int) : x ∈ compact zs ↔ x ∈ zs := by
  unfold compact compactUpTo
  rw [List.mem_map]
  constructor
  · rintro ⟨j, hj, rfl⟩
    have hj' := List.mem_range.1 (List.mem_filter.1 hj).1
    have e1 : zs.toArray[j]! = zs[j] := by simp [getElem!_pos, hj']
    rw [e1]
    exact List.getElem_mem hj'
  · intro hx
    have key : ∀ i : Nat, ∀ h : i < zs.length, zs[i] = x → ∃ j, j ∈ (List.range zs.length).filter (keeps zs.toArray) ∧ zs.toArray[j]! = x := by
      intro i
      induction i with
      | zero =>
        intro h hx
        refine ⟨0, List.mem_filter.2 ⟨List.mem_range.2 h, (keeps_iff _ _).2 (.inl rfl)⟩, ?_⟩
        rw [show zs.toArray[0]! = zs[0] by simp [getElem!_pos, h], hx]
      | succ i ih =>
        intro h hx
        by_cases he : zs[i] = x
        · exact ih (by omega) he
        · have e1 : zs.toArray[i + 1]! = zs[i + 1] := by simp [getElem!_pos, h]
          have e2 : zs.toArray[i + 1 - 1]! = zs[i] := by simp [getElem!_pos, show i < zs.length by omega]
          refine ⟨i + 1, List.mem_filter.2 ⟨List.mem_range.2 h, (keeps_iff _ _).2 (.inr ?_)⟩, ?_⟩
          · rw [e1, e2, hx]
            exact fun e => he e.symm
          · rw [e1, hx]
    obtain ⟨i, hi, e⟩ := List.mem_iff_getElem.1 hx
    exact key i hi e

/-- In order, each once. -/
def Ord (l : List Int) : Prop := l.Pairwise (· < ·)

theorem ord_ext : ∀ {l m : List Int}, Ord l → Ord m → (∀ x, x ∈ l ↔ x ∈ m) → l = m
  | [], [], _, _, _ => rfl
  | [], y :: m, _, _, h => absurd ((h y).2 List.mem_cons_self) (by simp)
  | x :: l, [], _, _, h => absurd ((h x).1 List.mem_cons_self) (by simp)
  | x :: l, y :: m, hl, hm, h => by
    obtain ⟨a1, a2⟩ := List.pairwise_cons.1 hl
    obtain ⟨b1, b2⟩ := List.pairwise_cons.1 hm
    have e : x = y := by
      rcases List.mem_cons.1 ((h x).1 List.mem_cons_self) with e | e
      · exact e
      · rcases List.mem_cons.1 ((h y).2 List.mem_cons_self) with e' | e'
        · exact e'.symm
        · have := a1 y e'; have := b1 x e; omega
    subst e
    refine congrArg (x :: ·) (ord_ext a2 b2 fun z => ?_)
    constructor
    · intro hz
      rcases List.mem_cons.1 ((h z).1 (List.mem_cons_of_mem _ hz)) with e | e
      · have := a1 z hz; omega
      · exact e
    · intro hz
      rcases List.mem_cons.1 ((h z).2 (List.mem_cons_of_mem _ hz)) with e | e
      · have := b1 z hz; omega
      · exact e

theorem made_ord (l : List Int) : Ord (compact (l.mergeSort fun x y => decide (x ≤ y))) := by
  refine compact_lt ?_
  have h := List.pairwise_mergeSort (le := fun x y : Int => decide (x ≤ y)) (fun a b c h1 h2 => by simp at *; omega) (fun a b => by simp; omega) l
  exact h.imp fun h => by simpa using h
theorem made_mem (l : List Int) (x : Int) : x ∈ compact (l.mergeSort fun x y => decide (x ≤ y)) ↔ x ∈ l := by
  rw [mem_compact, List.mem_mergeSort]
end Go.Proofs.YtiklliiamljogaaGreatDoor

/- The reference's Make, Is. -/
namespace Go.Proofs.YtiklliiamljogaaGreatDoor
open Go.RowKit Go.Lib

theorem mem_make (l : List Int) (x : Int) : x ∈ makeM l ↔ x ∈ l ∧ 0 ≤ x := by
  unfold makeM
  rw [made_mem, List.mem_filter]
  simp
theorem make_ord (l : List Int) : Ord (makeM l) := made_ord _
theorem make_eq {l m : List Int} (h : ∀ x, 0 ≤ x → (x ∈ l ↔ x ∈ m)) : makeM l = makeM m := by
  refine ord_ext (make_ord l) (make_ord m) fun x => ?_
  rw [mem_make, mem_make]
  constructor
  · rintro ⟨h1, h2⟩
    exact ⟨(h x h2).1 h1, h2⟩
  · rintro ⟨h1, h2⟩
    exact ⟨(h x h2).2 h1, h2⟩
/-- A literal more that is below 0, or is there. -/
theorem make_skip {l : List Int} {x : Int} (h : x < 0 ∨ x ∈ makeM l) : makeM (l ++ [x]) = makeM l := by
  refine make_eq fun y hy => ?_
  rw [List.mem_append, List.mem_singleton]
  refine ⟨fun h1 => h1.elim id fun e => ?_, .inl⟩
  subst e
  rcases h with h | h
  · omega
  · exact ((mem_make _ _).1 h).1
/-- A literal more, put in its place. -/
theorem make_ins {l : List Int} {x : Int} {k : Nat} (h0 : 0 ≤ x) (hn : x ∉ makeM l) (hlt : ∀ y ∈ (makeM l).take k, y < x) (hge : k < (makeM l).length → ∀ h : k < (makeM l).length, ¬ (makeM l)[k] < x) : (makeM l).take k ++ [x] ++ (makeM l).drop k = makeM (l ++ [x]) := by
  have ho := make_ord l
  have hgt : ∀ y ∈ (makeM l).drop k, x < y := by
    intro y hy
    have hk : k < (makeM l).length := by
      rcases Nat.lt_or_ge k (makeM l).length with h | h
      · exact h
      · rw [List.drop_eq_nil_of_le h] at hy; cases hy
    have h1 := hge hk hk
    rw [List.drop_eq_getElem_cons hk] at hy
    have hne : (makeM l)[k] ≠ x := fun e => hn (by rw [← e]; exact List.getElem_mem hk)
    rcases List.mem_cons.1 hy with rfl | hy
    · omega
    · have hp : ((makeM l).drop k).Pairwise (· < ·) := ho.drop
      rw [List.drop_eq_getElem_cons hk] at hp
      have := (List.pairwise_cons.1 hp).1 y hy
      omega
  refine ord_ext ?_ (make_ord _) fun y => ?_
  · refine List.pairwise_append.2 ⟨List.pairwise_append.2 ⟨ho.take, by simp, fun a ha b hb => ?_⟩, ho.drop, fun a ha b hb => ?_⟩
    · rw [List.mem_singleton.1 hb]; exact hlt a ha
    · have := hgt b hb
      rcases List.mem_append.1 ha with ha | ha
      · have := hlt a ha; omega
      · rw [List.mem_singleton.1 ha]; exact this
  · rw [mem_make, List.mem_append, List.mem_append, List.mem_append, List.mem_singleton]
    constructor
    · rintro ((h | h) | h)
      · have := (mem_make _ _).1 (List.mem_of_mem_take h)
        exact ⟨.inl this.1, this.2⟩
      · subst h; exact ⟨.inr rfl, h0⟩
      · have := (mem_make _ _).1 (List.mem_of_mem_drop h)
        exact ⟨.inl this.1, this.2⟩
    · rintro ⟨h | h, hy⟩
      · have hm : y ∈ makeM l := (mem_make _ _).2 ⟨h, hy⟩
        rw [← List.take_append_drop k (makeM l)] at hm
        rcases List.mem_append.1 hm with hm | hm
        · exact .inl (.inl hm)
        · exact .inr hm
      · exact .inl (.inr h)
theorem row_drop {w : World} {b off : Nat} {zs : List Int} (h : Row .i64 w (some ⟨b, off, none⟩) zs) (k : Nat) (hk : k < zs.length) : Row .i64 w (some ⟨b, off + k, none⟩) (zs.drop k) := by
  obtain ⟨b', off', hA, hb, hc⟩ := h.at_.resolve_left (by omega)
  injection hA with hA
  injection hA with h1 h2
  subst h1 h2
  refine ⟨by rw [List.length_drop]; have := h.len; omega, .inr ⟨b, off + k, rfl, hb, fun i hi => ?_⟩⟩
  rw [List.length_drop] at hi
  rw [Nat.add_assoc, hc (k + i) (by omega), List.getElem_drop]
theorem row_none {k : IntKind} {w : World} (A : Option Addr) : Row k w A [] := ⟨by simp, .inl rfl⟩
theorem own_row3 {w : World} {base n : Nat} {v : Value} {zs : List Int} (h : w.ownsRow base 3 1 v n (zs.map (Value.int .i64))) (hn : n = zs.length) (hl : zs.length ≤ 1000000) :
    ∃ B d, v = .slice B zs.length d ∧ Row .i64 w B zs ∧ (B = none → d = 0) ∧ zs.length ≤ d ∧ d ≤ 9223372036854775807 ∧ ∀ a, B = some a → ∃ cs, Blk w a.block 3 cs := by
  rcases own_cases h hn with ⟨rfl, h0⟩ | ⟨g, c, rfl, hown, _, hc⟩
  · refine ⟨none, 0, by rw [h0]; rfl, ?_, fun _ => rfl, by rw [h0]; simp, by decide, fun a ha => by cases ha⟩
    rw [h0]
    exact row_none none
  · obtain ⟨cur, hb, hh, hc2, hM, _⟩ := hown.block
    unfold maxLen at hM
    exact ⟨_, c, rfl, hown.row hl, (fun h => by cases h), hc, hM, fun a ha => by injection ha with ha; subst ha; exact ⟨cur, hh⟩⟩
end Go.Proofs.YtiklliiamljogaaGreatDoor

/- The reference's Make: the walk. -/
namespace Go.Proofs.YtiklliiamljogaaGreatDoor
open Go.RowKit Go.Lib

theorem mem_drop_cons {zs : List Int} {i : Nat} (h : i < zs.length) (x : Int) : (x ∈ zs.drop i) ↔ (zs[i] = x ∨ x ∈ zs.drop (i + 1)) := by
  rw [List.drop_eq_getElem_cons h, List.mem_cons]
  exact or_congr ⟨fun h => h.symm, fun h => h.symm⟩ Iff.rfl

theorem has_ok {w : World} {A : Option Addr} {zs : List Int} (cap : Nat) (h : Row .i64 w A zs) (x : Int) :
    Calls Tryz.prog 84 #[.slice A zs.length cap, .int .i64 x] w fun e w' => e = .returned (.bool (decide (x ∈ zs))) ∧ w = w' := by
  have hlen := h.len
  have H := Lib.hid h
  clear h
  go_enter Tryz.func84, Tryz.ntmps84
  go_wp2
  go_loopg [5] zs.length (fun g v wx => w = wx ∧ ∃ i : Nat, i + g = zs.length ∧ v = .int .i64 i ∧ (x ∈ zs ↔ x ∈ zs.drop i))
  case atStart => exact ⟨rfl, 0, by omega, rfl, Iff.rfl⟩
  case round =>
    obtain ⟨rfl, i, hig, rfl, hinv⟩ := hrel
    have HI := Lib.hid hinv
    clear hinv
    cases gk with
    | zero =>
      have d1 : decide ((i : Int) < zs.length) = false := by simp; omega
      have HN := Lib.hid (show decide (x ∈ zs) = false from decide_eq_false (fun hx => by have := HI.out.1 hx; rw [List.drop_eq_nil_of_le (by omega)] at this; cases this))
      go_wp2
      go_ret
      rw [HN.out]
      exact ⟨rfl, rfl⟩
    | succ k =>
      have hin : i < zs.length := by omega
      have d1 : decide ((i : Int) < zs.length) = true := by simp; omega
      obtain ⟨b, off, hA, hb, hcell⟩ := H.out.at_.resolve_left (by omega)
      subst hA
      have c0 := hcell i hin
      have Hdr := Lib.hid (mem_drop_cons hin x)
      have t1 : (0 : Int) ≤ (i : Int) := by omega
      have t2 : (i : Int) < (zs.length : Int) := by omega
      clear hcell
      generalize zs[i] = y at *
      by_cases hp : y = x
      · subst hp
        have HN := Lib.hid (show decide (y ∈ zs) = true from decide_eq_true (HI.out.2 (Hdr.out.2 (.inl rfl))))
        go_wp2
        go_ret
        rw [HN.out]
        exact ⟨rfl, rfl⟩
      · have b1 : (y == x) = false := beq_eq_false_iff_ne.2 hp
        have Hp := Lib.hid hp
        clear hp
        go_wp2
        go_roundg k
        case measure => omega
        case rel => exact ⟨rfl, i + 1, by omega, by go_num, HI.out.trans (Hdr.out.trans ⟨fun h => h.resolve_left Hp.out, .inr⟩)⟩


/-- The row made so far. -/
structure Outs (w wr : World) (zs : List Int) (i : Nat) (v : Value) (OA : Option Addr) (oc : Nat) (out : List Int) : Prop where
  val : v = .slice OA out.length oc
  is : out = makeM (zs.take i)
  row : Row .i64 wr OA out
  nil : OA = none → oc = 0
  cap : out.length ≤ oc
  capMax : oc ≤ 9223372036854775807
  blk : ∀ a, OA = some a → ∃ cs, Blk wr a.block 3 cs
  bel : Below w.heap.size w wr

theorem push_own {w : World} {base n : Nat} {v : Value} {l : List Int} {x : Int} (h : w.ownsRow base 3 1 v n (l.map (Value.int .i64) ++ #[Value.int .i64 x].toList)) : w.ownsRow base 3 1 v n ((l ++ [x]).map (Value.int .i64)) := by
  rw [List.map_append]; exact h
theorem take_succ_snoc {zs : List Int} {i : Nat} (h : i < zs.length) : zs.take (i + 1) = zs.take i ++ [zs[i]] := List.take_succ_eq_append_getElem h

set_option maxRecDepth 100000 in
set_option maxHeartbeats 4000000 in
theorem make15_ok {w : World} {A : Option Addr} {zs : List Int} (cap : Nat) (h : Row .i64 w A zs) (hz : zs.length ≤ 100000) :
    Calls Tryz.prog 69 #[.slice A zs.length cap] w fun e w' => ∃ B d, e = .returned (.slice B (makeM zs).length d) ∧ Row .i64 w' B (makeM zs) ∧ ((B = none → d = 0) ∧ ∀ a, B = some a → ∃ cs, Blk w' a.block 3 cs) ∧ Below w.heap.size w w' := by
  obtain ⟨i0, hi, hz0, hz1, hz2⟩ := info_parts int_info
  have H := Lib.hid h
  clear h
  go_enter Tryz.func69, Tryz.ntmps69
  go_wp2
  go_loopw [4, 3] (fun vi vo wr => ∃ (i : Nat) (OA : Option Addr) (oc : Nat) (out : List Int), i ≤ zs.length ∧ vi = .int .i64 i ∧ Outs w wr zs i vo OA oc out) (fun vi _ _ => (zs.length - intOf vi).toNat)
  case atStart => exact ⟨0, none, 0, [], Nat.zero_le _, rfl, rfl, (by rw [List.take_zero]; unfold makeM; simp only [List.filter_nil, List.mergeSort_nil]; rfl), ⟨by simp, .inl rfl⟩, fun _ => rfl, Nat.le_refl _, by simp, (fun a ha => by cases ha), Below.refl _ _⟩
  case round =>
    obtain ⟨i, OA, oc, out, hi2, rfl, hO⟩ := hrel
    obtain ⟨rfl, his, hrow, hnil, hcap, hcm, hbk, hbel⟩ := hO
    have Hbk := Lib.hid hbk
    clear hbk
    have hol : out.length ≤ i := by
      rw [his]
      have := makeM_len (zs.take i)
      rw [List.length_take] at this
      omega
    have Hrow := Lib.hid hrow
    have Hnil := Lib.hid hnil
    have Hbel := Lib.hid hbel
    have His := Lib.hid his
    have Hcm := Lib.hid hcm
    clear hrow hnil hbel his hcm
    by_cases hlt : i < zs.length
    · have d1 : decide ((i : Int) < zs.length) = true := by simp; omega
      obtain ⟨b, off, hA, hb, hcell⟩ := H.out.at_.resolve_left (by omega)
      subst hA
      have hcx : ∀ W, Below w.heap.size w W → W.cell? ⟨b, off + i, none⟩ = some (.int .i64 zs[i]) := fun W hW => (hW.cell (p := ⟨b, off + i, none⟩) hb).trans (hcell i hlt)
      have Htk := Lib.hid (take_succ_snoc hlt)
      have y0 := hcx _ Hbel.out
      have t1 : (0 : Int) ≤ (i : Int) := by omega
      have t2 : (i : Int) < (zs.length : Int) := by omega
      clear hcell
      generalize zs[i] = x at *
      have Hcx := Lib.hid hcx
      clear hcx
      by_cases g1 : x < 0
      · have d2 : decide (x < (0 : Int)) = true := decide_eq_true g1
        have e1 := Lib.hid (show out = makeM (zs.take (i + 1)) by rw [Htk.out, make_skip (.inl g1)]; exact His.out)
        clear g1
        go_wp2
        go_roundw
        case rel => exact ⟨i + 1, OA, oc, out, by omega, by go_num, rfl, e1.out, Hrow.out, Hnil.out, hcap, Hcm.out, Hbk.out, Hbel.out⟩
        case measure => simp only [intOf]; omega
      have d2 : decide (x < (0 : Int)) = false := decide_eq_false g1
      have Kh := has_ok oc Hrow.out x
      by_cases g2 : x ∈ out
      · have e1 := Lib.hid (show out = makeM (zs.take (i + 1)) by rw [Htk.out, make_skip (.inr (by rw [← His.out]; exact g2))]; exact His.out)
        rw [decide_eq_true g2] at Kh
        clear g1 g2
        go_wp2_with (go_at_call 84; (with_reducible refine Kh.mono ?_); rintro e w1 ⟨rfl, rfl⟩)
        go_roundw
        case rel => exact ⟨i + 1, OA, oc, out, by omega, by go_num, rfl, e1.out, Hrow.out, Hnil.out, hcap, Hcm.out, Hbk.out, Hbel.out⟩
        case measure => simp only [intOf]; omega
      rw [decide_eq_false g2] at Kh
      have G1 := Lib.hid (show 0 ≤ x by omega)
      have G2 := Lib.hid g2
      clear g1 g2
      go_wp2_with (go_at_call 84; (with_reducible refine Kh.mono ?_); rintro e w1 ⟨rfl, rfl⟩)
      clear Kh
      obtain ⟨wo, rfl⟩ : ∃ wo : World, wo = wr := ⟨_, rfl⟩
      go_loopw [6, 5] (fun vk vn wy => ∃ k : Nat, k ≤ out.length ∧ vk = .int .i64 k ∧ wy.ownsRow wo.heap.size 3 1 vn k ((out.take k).map (Value.int .i64)) ∧ (∀ y ∈ out.take k, y < x) ∧ Below wo.heap.size wo wy) (fun vk _ _ => (out.length - intOf vk).toNat)
      case atStart => exact ⟨0, Nat.zero_le _, rfl, World.ownsRow_nil _ _ _ _, (fun y hy => by cases hy), Below.refl _ _⟩
      case round =>
        obtain ⟨k, hk, rfl, hown, hls, hby⟩ := hrel
        have Hown := Lib.hid hown
        have Hls := Lib.hid hls
        have Hby := Lib.hid hby
        have y0 := Hcx.out _ (below_then Hbel.out (Nat.le_refl _) hby)
        clear hown hls hby
        have hex : (k < out.length ∧ ∃ h : k < out.length, out[k] < x) ∨ (k < out.length → ∀ h : k < out.length, ¬ out[k] < x) := by
          by_cases h1 : k < out.length
          · by_cases h2 : out[k] < x
            · exact .inl ⟨h1, h1, h2⟩
            · exact .inr fun _ _ => h2
          · exact .inr fun h => absurd h h1
        rcases hex with ⟨hkl, _, hlx⟩ | hge
        · have d3 : decide ((k : Int) < out.length) = true := by simp; omega
          obtain ⟨ob, oo, hOA, hob, hoc⟩ := (Hrow.out.below Hby.out).at_.resolve_left (by omega)
          subst hOA
          have z0 := hoc k hkl
          have Htk2 := Lib.hid (take_succ_snoc hkl)
          have Hls2 := Lib.hid (show ∀ y ∈ out.take (k + 1), y < x from fun y hy => by
            rw [Htk2.out] at hy
            rcases List.mem_append.1 hy with hy | hy
            · exact Hls.out y hy
            · rw [List.mem_singleton.1 hy]; exact hlx)
          have t3 : (0 : Int) ≤ (k : Int) := by omega
          have t4 : (k : Int) < (out.length : Int) := by omega
          have d4 : decide (out[k] < x) = true := decide_eq_true hlx
          clear hoc hlx
          generalize out[k] = y at *
          have X1 := Lib.hid (show (k + 1) * 8 ≤ 140737488355328 by omega)
          go_wp2
          go_quiet (fail)
          have HW := Lib.hid (show Below wo.heap.size wo ((wr.drewN nq).alloc (.cells #[.int .i64 y] 3)) from (below_drewN Hby.out nq).alloc Hby.out.size _)
          go_wp2_with (at_builtin; refine list_push _ rfl (.tmp 41) (.tmp 46) 44 rfl wo.heap.size 3 i0 (.int .i64 0) 1 8 Tryz.underlying44 hi hz0 hz1 hz2 rfl (by decide) _ k ((out.take k).map (Value.int .i64)) rfl ((own_drewN Hown.out nq).alloc _) wr.heap.size #[.int .i64 y] rfl (Blk.new (wr.drewN nq) _ _) rfl (by intro u hu; rw [List.mem_singleton.1 hu]; rfl) X1.out (by decide) Hby.out.size ?_; intro ga ca w3 ho3 hg3 _ _; have HO3 := Lib.hid ho3; have HB3 := Lib.hid (Below.grown HW.out hg3 (Nat.le_trans HW.out.size (Nat.le_refl _)) (fun j hj => (Hown.out.lt j hj).1)); clear ho3 hg3)
          go_roundw
          case rel => exact ⟨k + 1, by omega, by go_num, by rw [Htk2.out, List.map_append]; exact HO3.out, Hls2.out, HB3.out⟩
          case measure => simp only [intOf]; omega
        · have X1 := Lib.hid (show (k + 1) * 8 ≤ 140737488355328 by omega)
          have hdl : (out.take k).length = k := by rw [List.length_take]; omega
          have X2 := Lib.hid (show k + 1 + (out.drop k).length ≤ 1000000 by rw [List.length_drop]; omega)
          have hmk : out.take k ++ [x] ++ out.drop k = makeM (zs.take (i + 1)) := by
            rw [Htk.out, ← make_ins (k := k) G1.out (by rw [← His.out]; exact G2.out) (by rw [← His.out]; exact Hls.out) (by rw [← His.out]; exact hge), ← His.out]
          obtain ⟨M, hM⟩ : ∃ M, out.take k ++ [x] ++ out.drop k = M := ⟨_, rfl⟩
          have X3 := Lib.hid (show k + 1 + (out.drop k).length = M.length by rw [← hM, List.length_append, List.length_append, hdl]; rfl)
          have X4 := Lib.hid (show M.length ≤ 1000000 by rw [← X3.out]; exact X2.out)
          rw [hM] at hmk
          have HMM := Lib.hid hM
          have HMk := Lib.hid hmk
          have HW := fun nq => Lib.hid (show Below wo.heap.size wo ((wr.drewN nq).alloc (.cells #[.int .i64 x] 3)) from (below_drewN Hby.out nq).alloc Hby.out.size _)
          clear hdl hmk hM
          by_cases hkl : k < out.length
          · have d3 : decide ((k : Int) < out.length) = true := by simp; omega
            obtain ⟨ob, oo, hOA, hob, hoc⟩ := (Hrow.out.below Hby.out).at_.resolve_left (by omega)
            subst hOA
            have z0 := hoc k hkl
            have t3 : (0 : Int) ≤ (k : Int) := by omega
            have t4 : (k : Int) < (out.length : Int) := by omega
            have t5 : (k : Int) ≤ (out.length : Int) := by omega
            have t6 : (out.length : Int) ≤ (oc : Int) := by omega
            have t7 : ((oc : Int) == (k : Int)) = false := by simp; omega
            have t8 : oc ≠ k := by omega
            have d4 : decide (out[k] < x) = false := decide_eq_false (hge hkl hkl)
            have Hdr := Lib.hid (fun W (h : Below wo.heap.size wo W) => row_drop (Hrow.out.below h) k hkl)
            clear hoc hge
            generalize out[k] = y at *
            go_wp2
            go_quiet (fail)
            go_wp2_with (first
              | (at_builtin; refine list_push _ rfl (.tmp 50) (.tmp 55) 44 rfl wo.heap.size 3 i0 (.int .i64 0) 1 8 Tryz.underlying44 hi hz0 hz1 hz2 rfl (by decide) _ k ((out.take k).map (Value.int .i64)) rfl ((own_drewN Hown.out nq).alloc _) wr.heap.size #[.int .i64 x] rfl (Blk.new (wr.drewN nq) _ _) rfl (by intro u hu; rw [List.mem_singleton.1 hu]; rfl) X1.out (by decide) Hby.out.size ?_; intro ga ca w3 ho3 hg3 _ _; have HO3 := Lib.hid (push_own ho3); have HB3 := Lib.hid (Below.grown (HW nq).out hg3 (Nat.le_trans (HW nq).out.size (Nat.le_refl _)) (fun j hj => (Hown.out.lt j hj).1)); clear ho3 hg3)
              | (at_builtin; refine list_append_row _ rfl (.tmp 57) (.tmp 60) rfl wo.heap.size _ (k + 1) (out.take k ++ [x]) rfl HO3.out (some ⟨ob, oo + k, none⟩) (oc - k) (out.drop k) (by rw [List.length_drop]; rfl) (Hdr.out _ HB3.out) (by intro h; cases h) X2.out HB3.out.size ?_; intro v4 w4 ho4 hg4; rw [HMM.out] at ho4; have HB4 := Lib.hid (Below.grown HB3.out hg4 HB3.out.size (fun j hj => (HO3.out.lt j hj).1)); obtain ⟨B5, d5, rfl, hr5, hn5, hc5, hm5, hk5⟩ := own_row3 ho4 X3.out X4.out; have HR5 := Lib.hid hr5; have HN5 := Lib.hid hn5; have HC5 := Lib.hid hc5; have HM5 := Lib.hid hm5; have HK5 := Lib.hid hk5; clear ho4 hg4 hr5 hn5 hc5 hm5 hk5))
            go_roundw
            case rel => exact ⟨i + 1, B5, d5, M, by omega, by go_num, rfl, HMk.out, HR5.out, HN5.out, HC5.out, HM5.out, HK5.out, below_then Hbel.out (Nat.le_refl _) HB4.out⟩
            case measure => simp only [intOf]; omega
          · obtain rfl : k = out.length := by omega
            have d3 : decide ((out.length : Int) < out.length) = false := by simp
            have hdn : out.drop out.length = [] := List.drop_length
            have Hdn := Lib.hid hdn
            have t5 : (out.length : Int) ≤ (oc : Int) := by omega
            clear hge hdn hkl
            cases OA with
            | none =>
              have ho0 := Hnil.out rfl
              subst ho0
              have hon : out = [] := List.eq_nil_of_length_eq_zero (by omega)
              subst hon
              simp only [List.length_nil, List.take_nil, List.drop_nil, List.nil_append, List.append_nil, Nat.zero_add, List.map_nil] at Hown X1 X2 X3 HMM d3
              go_wp2
              go_quiet (fail)
              go_wp2_with (first
                | (at_builtin; refine list_push _ rfl (.tmp 50) (.tmp 55) 44 rfl wo.heap.size 3 i0 (.int .i64 0) 1 8 Tryz.underlying44 hi hz0 hz1 hz2 rfl (by decide) _ 0 [] rfl ((own_drewN Hown.out nq).alloc _) wr.heap.size #[.int .i64 x] rfl (Blk.new (wr.drewN nq) _ _) rfl (by intro u hu; rw [List.mem_singleton.1 hu]; rfl) X1.out (by decide) Hby.out.size ?_; intro ga ca w3 ho3 hg3 _ _; have HO3 := Lib.hid (push_own (l := []) ho3); have HB3 := Lib.hid (Below.grown (HW nq).out hg3 (Nat.le_trans (HW nq).out.size (Nat.le_refl _)) (fun j hj => (Hown.out.lt j hj).1)); clear ho3 hg3)
                | (at_builtin; refine list_append_row _ rfl (.tmp 57) (.tmp 60) rfl wo.heap.size _ 1 ([] ++ [x]) rfl HO3.out none 0 [] rfl (row_none _) (fun _ => rfl) (by decide) HB3.out.size ?_; intro v4 w4 ho4 hg4; rw [List.append_nil, List.nil_append, HMM.out] at ho4; have HB4 := Lib.hid (Below.grown HB3.out hg4 HB3.out.size (fun j hj => (HO3.out.lt j hj).1)); obtain ⟨B5, d5, rfl, hr5, hn5, hc5, hm5, hk5⟩ := own_row3 ho4 X3.out X4.out; have HR5 := Lib.hid hr5; have HN5 := Lib.hid hn5; have HC5 := Lib.hid hc5; have HM5 := Lib.hid hm5; have HK5 := Lib.hid hk5; clear ho4 hg4 hr5 hn5 hc5 hm5 hk5))
              go_roundw
              case rel => exact ⟨i + 1, B5, d5, M, by omega, by go_num, rfl, HMk.out, HR5.out, HN5.out, HC5.out, HM5.out, HK5.out, below_then Hbel.out (Nat.le_refl _) HB4.out⟩
              case measure => simp only [intOf]; omega
            | some oa =>
              by_cases hoe : oc = out.length
              · subst hoe
                go_wp2
                go_quiet (fail)
                go_wp2_with (first
                  | (at_builtin; refine list_push _ rfl (.tmp 50) (.tmp 55) 44 rfl wo.heap.size 3 i0 (.int .i64 0) 1 8 Tryz.underlying44 hi hz0 hz1 hz2 rfl (by decide) _ out.length ((out.take out.length).map (Value.int .i64)) rfl ((own_drewN Hown.out nq).alloc _) wr.heap.size #[.int .i64 x] rfl (Blk.new (wr.drewN nq) _ _) rfl (by intro u hu; rw [List.mem_singleton.1 hu]; rfl) X1.out (by decide) Hby.out.size ?_; intro ga ca w3 ho3 hg3 _ _; have HO3 := Lib.hid (push_own ho3); have HB3 := Lib.hid (Below.grown (HW nq).out hg3 (Nat.le_trans (HW nq).out.size (Nat.le_refl _)) (fun j hj => (Hown.out.lt j hj).1)); clear ho3 hg3)
                  | (at_builtin; refine list_append_row _ rfl (.tmp 57) (.tmp 60) rfl wo.heap.size _ (out.length + 1) (out.take out.length ++ [x]) rfl HO3.out (some oa) _ (out.drop out.length) (by rw [Hdn.out]; rfl) (Hdn.out ▸ row_none _) (by intro h; cases h) X2.out HB3.out.size ?_; intro v4 w4 ho4 hg4; rw [HMM.out] at ho4; have HB4 := Lib.hid (Below.grown HB3.out hg4 HB3.out.size (fun j hj => (HO3.out.lt j hj).1)); obtain ⟨B5, d5, rfl, hr5, hn5, hc5, hm5, hk5⟩ := own_row3 ho4 X3.out X4.out; have HR5 := Lib.hid hr5; have HN5 := Lib.hid hn5; have HC5 := Lib.hid hc5; have HM5 := Lib.hid hm5; have HK5 := Lib.hid hk5; clear ho4 hg4 hr5 hn5 hc5 hm5 hk5))
                go_roundw
                case rel => exact ⟨i + 1, B5, d5, M, by omega, by go_num, rfl, HMk.out, HR5.out, HN5.out, HC5.out, HM5.out, HK5.out, below_then Hbel.out (Nat.le_refl _) HB4.out⟩
                case measure => simp only [intOf]; omega
              · have t7 : ((oc : Int) == (out.length : Int)) = false := by simp; omega
                go_wp2
                go_quiet (fail)
                go_wp2_with (first
                  | (at_builtin; refine list_push _ rfl (.tmp 50) (.tmp 55) 44 rfl wo.heap.size 3 i0 (.int .i64 0) 1 8 Tryz.underlying44 hi hz0 hz1 hz2 rfl (by decide) _ out.length ((out.take out.length).map (Value.int .i64)) rfl ((own_drewN Hown.out nq).alloc _) wr.heap.size #[.int .i64 x] rfl (Blk.new (wr.drewN nq) _ _) rfl (by intro u hu; rw [List.mem_singleton.1 hu]; rfl) X1.out (by decide) Hby.out.size ?_; intro ga ca w3 ho3 hg3 _ _; have HO3 := Lib.hid (push_own ho3); have HB3 := Lib.hid (Below.grown (HW nq).out hg3 (Nat.le_trans (HW nq).out.size (Nat.le_refl _)) (fun j hj => (Hown.out.lt j hj).1)); clear ho3 hg3)
                  | (at_builtin; refine list_append_row _ rfl (.tmp 57) (.tmp 60) rfl wo.heap.size _ (out.length + 1) (out.take out.length ++ [x]) rfl HO3.out _ _ (out.drop out.length) (by rw [Hdn.out]; rfl) (Hdn.out ▸ row_none _) (by intro h; cases h) X2.out HB3.out.size ?_; intro v4 w4 ho4 hg4; rw [HMM.out] at ho4; have HB4 := Lib.hid (Below.grown HB3.out hg4 HB3.out.size (fun j hj => (HO3.out.lt j hj).1)); obtain ⟨B5, d5, rfl, hr5, hn5, hc5, hm5, hk5⟩ := own_row3 ho4 X3.out X4.out; have HR5 := Lib.hid hr5; have HN5 := Lib.hid hn5; have HC5 := Lib.hid hc5; have HM5 := Lib.hid hm5; have HK5 := Lib.hid hk5; clear ho4 hg4 hr5 hn5 hc5 hm5 hk5))
                go_roundw
                case rel => exact ⟨i + 1, B5, d5, M, by omega, by go_num, rfl, HMk.out, HR5.out, HN5.out, HC5.out, HM5.out, HK5.out, below_then Hbel.out (Nat.le_refl _) HB4.out⟩
                case measure => simp only [intOf]; omega
    · obtain rfl : i = zs.length := by omega
      have d1 : decide ((zs.length : Int) < zs.length) = false := by simp
      have e1 := His.out
      rw [List.take_length] at e1
      have E1 := Lib.hid e1
      clear e1
      go_wp2
      go_ret
      exact ⟨OA, oc, by rw [← E1.out]; rfl, by rw [← E1.out]; exact Hrow.out, ⟨Hnil.out, Hbk.out⟩, Hbel.out⟩
end Go.Proofs.YtiklliiamljogaaGreatDoor

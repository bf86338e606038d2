/- The reference's side (L16/UnJ L16/AppRow L16/UnK), for layer 21's seat. -/
import Derived.Test.YtmbekchnfbmhbaaGreatRfB
namespace Go.Proofs.YtmbekchnfbmhbaaGreat
section
open Go.RowKit Go.Lib
theorem val15_ok {w : World} {A : Option Addr} {vals : List Int} (cap : Nat) (hv : Row .i8 w A vals) (lit : Int) (hl : lit ≤ 9223372036854775807) :
    Calls Tryz.prog 44 #[.slice A vals.length cap, .int .i64 lit] w fun e w' => e = .returned (.int .i8 (valM vals lit)) ∧ w = w' := by
  have hlen := hv.len
  by_cases h0 : lit < 0
  · have d0 : decide (lit < 0) = true := decide_eq_true h0
    have e : valM vals lit = 0 := by unfold valM; rw [if_pos h0]
    rw [e]
    clear e hv hlen
    go_enter Tryz.func44, Tryz.ntmps44
    go_wp2
    go_ret
    exact ⟨rfl, rfl⟩
  have d0 : decide (lit < 0) = false := decide_eq_false h0
  obtain ⟨q, hq⟩ : ∃ q : Nat, lit / 2 = q := ⟨(lit / 2).toNat, by omega⟩
  have e1 : valM vals lit = match vals[q]? with
    | none => 0
    | some v => if v = 1 then (if lit % 2 = 0 then 1 else 2) else if v = 2 then (if lit % 2 = 0 then 2 else 1) else 0 := by
    unfold valM
    rw [if_neg h0, hq]
    rfl
  rw [e1]
  clear e1
  by_cases h1 : q < vals.length
  · have d1 : decide ((vals.length : Int) ≤ (q : Int)) = false := decide_eq_false (by omega)
    rw [List.getElem?_eq_getElem h1]
    rcases hv.at_ with h2 | ⟨b, off, rfl, hb, hc⟩
    · omega
    have c0 := hc q h1
    have hand : bits .and .i64 lit 1 = lit % 2 := i64_and_one lit (by omega) (by omega)
    generalize hvq : vals[q] = v at *
    have t1 : (q : Int) < (vals.length : Int) := by omega
    have t2 : (0 : Int) ≤ (q : Int) := by omega
    clear hc hv hvq h0
    by_cases hv1 : v = 1
    · subst hv1
      simp only [if_true]
      by_cases hp : lit % 2 = 0
      · rw [hp] at hand
        rw [if_pos hp]
        clear hp
        go_enter Tryz.func44, Tryz.ntmps44
        go_wp2
        go_ret
        exact ⟨rfl, rfl⟩
      · have hp1 : lit % 2 = 1 := by omega
        rw [hp1] at hand
        rw [if_neg hp]
        clear hp hp1
        go_enter Tryz.func44, Tryz.ntmps44
        go_wp2
        go_ret
        exact ⟨rfl, rfl⟩
    · by_cases hv2 : v = 2
      · subst hv2
        simp only [if_true, if_neg hv1]
        by_cases hp : lit % 2 = 0
        · rw [hp] at hand
          rw [if_pos hp]
          clear hp hv1
          go_enter Tryz.func44, Tryz.ntmps44
          go_wp2
          go_ret
          exact ⟨rfl, rfl⟩
        · have hp1 : lit % 2 = 1 := by omega
          rw [hp1] at hand
          rw [if_neg hp]
          clear hp hp1 hv1
          go_enter Tryz.func44, Tryz.ntmps44
          go_wp2
          go_ret
          exact ⟨rfl, rfl⟩
      · have b1 : (v != 1) = true := by simpa using hv1
        have b2 : (v != 2) = true := by simpa using hv2
        simp only [if_neg hv1, if_neg hv2]
        clear hv1 hv2 hand
        go_enter Tryz.func44, Tryz.ntmps44
        go_wp2
        go_ret
        exact ⟨rfl, rfl⟩
  · have d1 : decide ((vals.length : Int) ≤ (q : Int)) = true := decide_eq_true (by omega)
    have d2 : vals.length ≤ q := by omega
    rw [List.getElem?_eq_none (by omega)]
    clear hv h1
    go_enter Tryz.func44, Tryz.ntmps44
    go_wp2
    go_ret
    exact ⟨rfl, rfl⟩

theorem state15_ok {w : World} {A B : Option Addr} {c vals : List Int} (cap cap2 : Nat) (hc : Row .i64 w A c) (hv : Row .i8 w B vals) (hm : ∀ x ∈ c, x ≤ 9223372036854775807) :
    Calls Tryz.prog 25 #[.slice A c.length cap, .slice B vals.length cap2] w fun e w' => e = .returned (.tuple #[.int .i8 (stM vals c 0 (-1)).1, .int .i64 (stM vals c 0 (-1)).2]) ∧ w = w' := by
  have hlen := hc.len
  have Hc := Lib.hid hc
  have Hv := Lib.hid hv
  have Hm := Lib.hid hm
  clear hc hv hm
  go_enter Tryz.func25, Tryz.ntmps25
  go_wp2
  go_loopg [8, 6, 7] c.length (fun g v vo vl wx => w = wx ∧ ∃ (i o : Nat) (l : Int), i + g = c.length ∧ o ≤ i ∧ v = .int .i64 i ∧ vo = .int .i64 o ∧ vl = .int .i64 l ∧ stM vals (c.drop i) o l = stM vals c 0 (-1))
  case atStart => exact ⟨rfl, 0, 0, -1, by omega, by omega, rfl, rfl, rfl, rfl⟩
  case round =>
    obtain ⟨rfl, i, o, l, hig, hoi, rfl, rfl, rfl, hinv⟩ := hrel
    have HI := Lib.hid hinv
    clear hinv
    cases gk with
    | zero =>
      have d1 : decide ((i : Int) < c.length) = false := by simp; omega
      have hnil : c.drop i = [] := List.drop_eq_nil_of_le (by omega)
      have HN := Lib.hid hnil
      clear hnil
      by_cases h0 : o = 0
      · subst h0
        go_wp2
        go_ret2
        rw [← HI.out, HN.out]
        exact ⟨rfl, rfl⟩
      by_cases h1 : o = 1
      · subst h1
        go_wp2
        go_ret2
        rw [← HI.out, HN.out]
        exact ⟨rfl, rfl⟩
      have b0 : ((o : Int) == 0) = false := beq_eq_false_iff_ne.2 (by omega)
      have b1 : ((o : Int) == 1) = false := beq_eq_false_iff_ne.2 (by omega)
      have e : stM vals [] o l = (3, -1) := by unfold stM; rw [if_neg h0, if_neg h1]
      have He := Lib.hid e
      clear e h0 h1
      go_wp2
      go_ret2
      rw [← HI.out, HN.out, He.out]
      exact ⟨rfl, rfl⟩
    | succ g =>
      have hin : i < c.length := by omega
      have d1 : decide ((i : Int) < c.length) = true := by simp; omega
      obtain ⟨b, off, hA, hb, hcell⟩ := Hc.out.at_.resolve_left (by omega)
      subst hA
      have c0 := hcell i hin
      have hdr : c.drop i = c[i] :: c.drop (i + 1) := List.drop_eq_getElem_cons hin
      have hx := Hm.out c[i] (List.getElem_mem hin)
      have Hdr := Lib.hid hdr
      have t1 : (0 : Int) ≤ (i : Int) := by omega
      have t2 : (i : Int) < (c.length : Int) := by omega
      clear hcell hdr
      generalize c[i] = x at *
      generalize hv : valM vals x = v
      have HV := Lib.hid hv
      clear hv
      by_cases h1 : v = 1
      · subst h1
        go_wp2_with (go_at_call 44; refine (val15_ok cap2 Hv.out x hx).mono ?_; rintro e w1 ⟨rfl, rfl⟩; rw [HV.out])
        go_ret2
        rw [← HI.out, Hdr.out]
        unfold stM
        rw [if_pos HV.out]
        exact ⟨rfl, rfl⟩
      have b1 : (v == 1) = false := beq_eq_false_iff_ne.2 h1
      by_cases h2 : v = 0
      · subst h2
        go_wp2_with (go_at_call 44; refine (val15_ok cap2 Hv.out x hx).mono ?_; rintro e w1 ⟨rfl, rfl⟩; rw [HV.out])
        go_roundg g
        case measure => omega
        case rel => exact ⟨rfl, i + 1, o + 1, x, by omega, by omega, by go_num, by go_num, rfl, by rw [← HI.out, Hdr.out]; conv => rhs; unfold stM; rw [if_neg (by rw [HV.out]; exact h1), if_pos HV.out]⟩
      have b2 : (v == 0) = false := beq_eq_false_iff_ne.2 h2
      go_wp2_with (go_at_call 44; refine (val15_ok cap2 Hv.out x hx).mono ?_; rintro e w1 ⟨rfl, rfl⟩; rw [HV.out])
      go_roundg g
      case measure => omega
      case rel => exact ⟨rfl, i + 1, o, l, by omega, by omega, by go_num, rfl, rfl, by rw [← HI.out, Hdr.out]; conv => rhs; unfold stM; rw [if_neg (by rw [HV.out]; exact h1), if_neg (by rw [HV.out]; exact h2)]⟩

/-- Does each clause hold? -/
def holdsM (vals : List Int) (cs : List (List Int)) : Bool := cs.all fun c => (stM vals c 0 (-1)).1 == 0
set_option maxHeartbeats 1000000 in
theorem holds15_ok {w : World} {A B : Option Addr} {rows : List (Option Addr × Nat × List Int)} {vals : List Int} (cap cap2 : Nat) (h : Grid w A rows) (hv : Row .i8 w B vals) (hm : ∀ r ∈ rows, ∀ x ∈ r.2.2, x ≤ 9223372036854775807) :
    Calls Tryz.prog 15 #[.slice A rows.length cap, .slice B vals.length cap2] w fun e w' => e = .returned (.bool (holdsM vals (rowsOf rows))) ∧ w = w' := by
  have hlen := h.len
  have H := Lib.hid h
  have Hm := Lib.hid hm
  have Hv := Lib.hid hv
  clear h hm hv
  go_enter Tryz.func15, Tryz.ntmps15
  go_wp2
  go_loopg [5] rows.length (fun g v wx => w = wx ∧ ∃ i : Nat, i + g = rows.length ∧ v = .int .i64 i ∧ holdsM vals (rowsOf rows) = holdsM vals ((rowsOf rows).drop i))
  case atStart => exact ⟨rfl, 0, by omega, rfl, rfl⟩
  case round =>
    obtain ⟨rfl, i, hig, rfl, hinv⟩ := hrel
    have HI := Lib.hid hinv
    clear hinv
    cases gk with
    | zero =>
      have d1 : decide ((i : Int) < rows.length) = false := by simp; omega
      have HN := Lib.hid (show (rowsOf rows).drop i = [] from List.drop_eq_nil_of_le (by unfold rowsOf; rw [List.length_map]; omega))
      go_wp2
      go_ret
      rw [HI.out, HN.out]
      exact ⟨rfl, rfl⟩
    | succ k =>
      have hin : i < rows.length := by omega
      have d1 : decide ((i : Int) < rows.length) = true := by simp; omega
      obtain ⟨b, off, hA, hb, hcell⟩ := H.out.at_.resolve_left (by omega)
      subst hA
      obtain ⟨c0, hrow, _⟩ := hcell i hin
      have hx := Hm.out rows[i] (List.getElem_mem hin)
      have hdr : holdsM vals ((rowsOf rows).drop i) = (((stM vals rows[i].2.2 0 (-1)).1 == 0) && holdsM vals ((rowsOf rows).drop (i + 1))) := by
        have hi2 : i < (rowsOf rows).length := by unfold rowsOf; rw [List.length_map]; exact hin
        rw [List.drop_eq_getElem_cons hi2]
        simp [rowsOf, holdsM]
      have Hdr := Lib.hid hdr
      have t1 : (0 : Int) ≤ (i : Int) := by omega
      have t2 : (i : Int) < (rows.length : Int) := by omega
      clear hcell hdr
      generalize rows[i].1 = xa at *
      generalize rows[i].2.1 = xc at *
      generalize rows[i].2.2 = c at *
      have K := state15_ok xc cap2 hrow Hv.out hx
      generalize stM vals c 0 (-1) = s at K Hdr
      obtain ⟨p1, p2⟩ := s
      clear hx hrow
      simp only at K
      by_cases h1 : p1 = 0
      · subst h1
        go_wp2_with (go_at_call 25; (with_reducible refine K.mono ?_); rintro e w1 ⟨rfl, rfl⟩)
        go_roundg k
        case measure => omega
        case rel => exact ⟨rfl, i + 1, by omega, by go_num, by rw [HI.out, Hdr.out]; rfl⟩
      · have b1 : (p1 != 0) = true := by simpa using h1
        have H1 := Lib.hid (show (p1 == 0) = false by simpa using h1)
        clear h1
        go_wp2_with (go_at_call 25; (with_reducible refine K.mono ?_); rintro e w1 ⟨rfl, rfl⟩)
        go_ret
        rw [HI.out, Hdr.out, H1.out]
        exact ⟨rfl, rfl⟩
end
section
open Go.RowKit Go.Lib
set_option maxRecDepth 100000 in
theorem wp_append_row {o : Oper} {a : Act} {K : Act → World → Prop} {Q : Exit → Act → World → Prop} (w : World) (s x : Operand)
    (ho : o.op = .call { callee := .builtin .append, args := #[s, x], argTypes := #[23, 23] })
    (base : Nat) (v : Value) (n : Nat) (xs : List Int) (hs : a.eval s = v) (hown : w.ownsRow base 3 1 v n (xs.map (Value.int .i64)))
    (A : Option Addr) (cap : Nat) (zs : List Int) (hx : a.eval x = .slice A zs.length cap) (hrow : Row .i64 w A zs) (hnil : A = none → cap = 0) (hb : n + zs.length ≤ 1000000) (hbase : base ≤ w.heap.size)
    (h : ∀ v' w', w'.ownsRow base 3 1 v' (n + zs.length) ((xs ++ zs).map (Value.int .i64)) → w.grownBy w' v.ownBlock → K (a.put o.dst v') w') : o.wp Tryz.prog a w K Q := by
  obtain ⟨i0, hi, hz0, hz1, hz2⟩ := info_parts int_info
  cases A with
  | none =>
    obtain rfl := hnil rfl
    have hz : zs = [] := by
      rcases hrow.at_ with h1 | ⟨b, off, h1, _⟩
      · exact List.eq_nil_of_length_eq_zero h1
      · cases h1
    subst hz
    have hrun := run_append_owned_none (P := Tryz.prog) (w := w) base 23 o.type 3 i0 1 Tryz.underlying23 hi v n _ hown
    have h1 := h v w (by rw [List.append_nil]; exact hown) ⟨rfl, rfl, rfl, Nat.le_refl _, fun _ _ _ => rfl⟩
    unfold Oper.wp execOp
    simp only [ho, resolve, invoke, builtin, Sem.run_bind, Sem.run_pure, Result.andThen_ok, List.map_toArray, List.map_cons, List.map_nil, hs, hx]
    simp only [List.length_nil] at hrun ⊢
    rw [hrun]
    exact h1
  | some ad =>
    have hnews : ∀ j u, (zs.map (Value.int .i64))[j]? = some u → w.cell? (ad.add j) = some u := by
      intro j u hj
      rw [List.getElem?_map] at hj
      have hjl : j < zs.length := by
        rcases Nat.lt_or_ge j zs.length with h1 | h1
        · exact h1
        · rw [List.getElem?_eq_none h1] at hj; cases hj
      rw [List.getElem?_eq_getElem hjl, Option.map_some] at hj
      have hj := Option.some.inj hj
      rcases hrow.at_ with h1 | ⟨b, off, h1, _, hc⟩
      · omega
      · injection h1 with h1
        subst h1
        have h2 : (⟨b, off, none⟩ : Addr).add j = ⟨b, off + j, none⟩ := by unfold Addr.add; split <;> simp_all
        rw [h2, hc j hjl, ← hj]
    have h1c : ∀ u ∈ zs.map (Value.int .i64), u.oneCell' = true := by
      intro u hu
      obtain ⟨x, _, rfl⟩ := List.mem_map.1 hu
      rfl
    exact wp_append_own w s x 23 ho base 3 i0 (.int .i64 0) 1 8 Tryz.underlying23 hi hz0 hz1 hz2 rfl (by decide) v n _ hs hown ad zs.length cap _ hx (by simp) hnews h1c (by unfold maxLen; omega) (by omega) hbase
      fun v' w' h2 h3 _ => h v' w' (by rw [List.map_append]; exact h2) h3

theorem list_append_row {ops : Array Oper} {rest : List Oper} {o : Oper} {a : Act} {Q : Exit → Act → World → Prop} (w : World) (hw : Region.wanted o (yielded ops a.tmps) = true) (s x : Operand)
    (ho : o.op = .call { callee := .builtin .append, args := #[s, x], argTypes := #[23, 23] })
    (base : Nat) (v : Value) (n : Nat) (xs : List Int) (hs : a.eval s = v) (hown : w.ownsRow base 3 1 v n (xs.map (Value.int .i64)))
    (A : Option Addr) (cap : Nat) (zs : List Int) (hx : a.eval x = .slice A zs.length cap) (hrow : Row .i64 w A zs) (hnil : A = none → cap = 0) (hb : n + zs.length ≤ 1000000) (hbase : base ≤ w.heap.size)
    (h : ∀ v' w', w'.ownsRow base 3 1 v' (n + zs.length) ((xs ++ zs).map (Value.int .i64)) → w.grownBy w' v.ownBlock → wpList Tryz.prog ops Q rest (a.put o.dst v') w') : wpList Tryz.prog ops Q (o :: rest) a w :=
  wpList_step fun K hK => by
    rw [if_pos hw]
    exact wp_append_row w s x ho base v n xs hs hown A cap zs hx hrow hnil hb hbase fun v' w' h1 h2 => hK _ _ (h v' w' h1 h2)

theorem step_append_row {ops : Array Oper} {o : Oper} {a : Act} {K : Act → World → Prop} {Q : Exit → Act → World → Prop} {E : Prop} (w : World) (hgd : o.guard = none) (s x : Operand)
    (ho : o.op = .call { callee := .builtin .append, args := #[s, x], argTypes := #[23, 23] })
    (base : Nat) (v : Value) (n : Nat) (xs : List Int) (hs : a.eval s = v) (hown : w.ownsRow base 3 1 v n (xs.map (Value.int .i64)))
    (A : Option Addr) (cap : Nat) (zs : List Int) (hx : a.eval x = .slice A zs.length cap) (hrow : Row .i64 w A zs) (hnil : A = none → cap = 0) (hb : n + zs.length ≤ 1000000) (hbase : base ≤ w.heap.size)
    (h : ∀ v' w', w'.ownsRow base 3 1 v' (n + zs.length) ((xs ++ zs).map (Value.int .i64)) → w.grownBy w' v.ownBlock → K (a.put o.dst v') w') :
    if Region.wanted o (yielded ops a.tmps) = true then Oper.wp Tryz.prog o a w K Q else E := by
  have hw : Region.wanted o (yielded ops a.tmps) = true := by simp [Region.wanted, hgd]
  rw [if_pos hw]
  exact wp_append_row w s x ho base v n xs hs hown A cap zs hx hrow hnil hb hbase h

theorem own_empty (w : World) : (w.alloc (.cells #[] 3)).ownsRow w.heap.size 3 1 (.slice (some ⟨w.heap.size, 0, none⟩) 0 0) 0 (([] : List Int).map (Value.int .i64)) :=
  ⟨rfl, .inr ⟨w.heap.size, 0, #[], rfl, Nat.le_refl _, heap_alloc_new w _, Nat.le_refl _, Nat.zero_le _, rfl, rfl⟩⟩
end
section
open Go.RowKit Go.Lib
theorem mem_make (l : List Int) (x : Int) : x ∈ makeM l ↔ x ∈ l ∧ 0 ≤ x := by
  unfold makeM
  rw [made_mem, List.mem_filter]
  simp
theorem make_ord (l : List Int) : Ord (makeM l) := made_ord _
theorem make_eq {l m : List Int} (h : ∀ x, 0 ≤ x → (x ∈ l ↔ x ∈ m)) : makeM l = makeM m := by
  refine ord_ext (make_ord l) (make_ord m) fun x => ?_
  rw [mem_make, mem_make]
  constructor
  · rintro ⟨h1, h2⟩
    exact ⟨(h x h2).1 h1, h2⟩
  · rintro ⟨h1, h2⟩
    exact ⟨(h x h2).2 h1, h2⟩
/-- A literal more that is below 0, or is there. -/
theorem make_skip {l : List Int} {x : Int} (h : x < 0 ∨ x ∈ makeM l) : makeM (l ++ [x]) = makeM l := by
  refine make_eq fun y hy => ?_
  rw [List.mem_append, List.mem_singleton]
  refine ⟨fun h1 => h1.elim id fun e => ?_, .inl⟩
  subst e
  rcases h with h | h
  · omega
  · exact ((mem_make _ _).1 h).1
/-- A literal more, put in its place. -/
theorem make_ins {l : List Int} {x : Int} {k : Nat} (h0 : 0 ≤ x) (hn : x ∉ makeM l) (hlt : ∀ y ∈ (makeM l).take k, y < x) (hge : k < (makeM l).length → ∀ h : k < (makeM l).length, ¬ (makeM l)[k] < x) : (makeM l).take k ++ [x] ++ (makeM l).drop k = makeM (l ++ [x]) := by
  have ho := make_ord l
  have hgt : ∀ y ∈ (makeM l).drop k, x < y := by
    intro y hy
    have hk : k < (makeM l).length := by
      rcases Nat.lt_or_ge k (makeM l).length with h | h
      · exact h
      · rw [List.drop_eq_nil_of_le h] at hy; cases hy
    have h1 := hge hk hk
    rw [List.drop_eq_getElem_cons hk] at hy
    have hne : (makeM l)[k] ≠ x := fun e => hn (by rw [← e]; exact List.getElem_mem hk)
    rcases List.mem_cons.1 hy with rfl | hy
    · omega
    · have hp : ((makeM l).drop k).Pairwise (· < ·) := ho.drop
      rw [List.drop_eq_getElem_cons hk] at hp
      have := (List.pairwise_cons.1 hp).1 y hy
      omega
  refine ord_ext ?_ (make_ord _) fun y => ?_
  · refine List.pairwise_append.2 ⟨List.pairwise_append.2 ⟨ho.take, by simp, fun a ha b hb => ?_⟩, ho.drop, fun a ha b hb => ?_⟩
    · rw [List.mem_singleton.1 hb]; exact hlt a ha
    · have := hgt b hb
      rcases List.mem_append.1 ha with ha | ha
      · have := hlt a ha; omega
      · rw [List.mem_singleton.1 ha]; exact this
  · rw [mem_make, List.mem_append, List.mem_append, List.mem_append, List.mem_singleton]
    constructor
    · rintro ((h | h) | h)
      · have := (mem_make _ _).1 (List.mem_of_mem_take h)
        exact ⟨.inl this.1, this.2⟩
      · subst h; exact ⟨.inr rfl, h0⟩
      · have := (mem_make _ _).1 (List.mem_of_mem_drop h)
        exact ⟨.inl this.1, this.2⟩
    · rintro ⟨h | h, hy⟩
      · have hm : y ∈ makeM l := (mem_make _ _).2 ⟨h, hy⟩
        rw [← List.take_append_drop k (makeM l)] at hm
        rcases List.mem_append.1 hm with hm | hm
        · exact .inl (.inl hm)
        · exact .inr hm
      · exact .inl (.inr h)
theorem row_drop {w : World} {b off : Nat} {zs : List Int} (h : Row .i64 w (some ⟨b, off, none⟩) zs) (k : Nat) (hk : k < zs.length) : Row .i64 w (some ⟨b, off + k, none⟩) (zs.drop k) := by
  obtain ⟨b', off', hA, hb, hc⟩ := h.at_.resolve_left (by omega)
  injection hA with hA
  injection hA with h1 h2
  subst h1 h2
  refine ⟨by rw [List.length_drop]; have := h.len; omega, .inr ⟨b, off + k, rfl, hb, fun i hi => ?_⟩⟩
  rw [List.length_drop] at hi
  rw [Nat.add_assoc, hc (k + i) (by omega), List.getElem_drop]
theorem row_none {k : IntKind} {w : World} (A : Option Addr) : Row k w A [] := ⟨by simp, .inl rfl⟩
theorem own_row3 {w : World} {base n : Nat} {v : Value} {zs : List Int} (h : w.ownsRow base 3 1 v n (zs.map (Value.int .i64))) (hn : n = zs.length) (hl : zs.length ≤ 1000000) :
    ∃ B d, v = .slice B zs.length d ∧ Row .i64 w B zs ∧ (B = none → d = 0) ∧ zs.length ≤ d ∧ d ≤ 9223372036854775807 ∧ ∀ a, B = some a → ∃ cs, Blk w a.block 3 cs := by
  rcases own_cases h hn with ⟨rfl, h0⟩ | ⟨g, c, rfl, hown, _, hc⟩
  · refine ⟨none, 0, by rw [h0]; rfl, ?_, fun _ => rfl, by rw [h0]; simp, by decide, fun a ha => by cases ha⟩
    rw [h0]
    exact row_none none
  · obtain ⟨cur, hb, hh, hc2, hM, _⟩ := hown.block
    unfold maxLen at hM
    exact ⟨_, c, rfl, hown.row hl, (fun h => by cases h), hc, hM, fun a ha => by injection ha with ha; subst ha; exact ⟨cur, hh⟩⟩
end
end Go.Proofs.YtmbekchnfbmhbaaGreat

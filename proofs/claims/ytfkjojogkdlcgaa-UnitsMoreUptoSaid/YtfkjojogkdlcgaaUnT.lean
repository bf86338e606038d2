/- great of literals that were appended to; append of a slice that came in, however long. -/
import Derived.Test.YtfkjojogkdlcgaaSame16
import Derived.SizedLaws
namespace Go.Proofs.Ytfkjojogkdlcgaa
open Go.RowKit Go.Lib Go.ChangeShapes Go.WideShapes Go.ChangeAt

def GivenAt (w : World) (ga : Option Addr) (gl : Nat) (z : List Int) : Prop := gl = 0 ∨ ∃ x, ga = some x ∧ ∀ i, i < gl → w.cell? (x.add i) = some (.int .i64 (z.getD i 0))

set_option maxHeartbeats 1000000 in
theorem great16g_ok {w : World} {a : Option Addr} {len cap : Nat} {A : Nat → Option Addr} {L C : Nat → Nat} {Z : Nat → List Int} (h : IsGrid w a len cap A L C Z) {ga : Option Addr} {gl gc : Nat} {z : List Int} (k : GivenAt w ga gl z) (hgm : gl ≤ 9223372036854775807) :
    Calls Try.prog 10 #[.slice a len cap, .slice ga gl gc] w (Great2Post len L Z gl z w) := by
  have hlm := h.lenMax
  have H := Lib.hid h
  have K := Lib.hid k
  clear h k
  go_enter Try.func10, Try.ntmps10
  go_wp2_with (go_at_call 25; (with_reducible refine (great15_ok H.out).mono ?_); rintro e w1 ⟨bb, rfl, rfl, hbb⟩; have HBB := Lib.hid hbb; clear hbb; cases bb)
  · go_ret
    exact Great2Post.yes _ _ _ _ _ _
  rotate_left
  · go_ret
    exact Great2Post.yes _ _ _ _ _ _
  have hg200 : gl ≤ 200 := by
    have : (gl : Int) ≤ 200 := by assumption
    omega
  go_loopg [5] gl (fun g v wx => w = wx ∧ ∃ i : Nat, i + g = gl ∧ v = .int .i64 i ∧ ∀ c, c < i → z.getD c 0 ≤ 4000)
  case atStart => exact ⟨rfl, 0, by omega, rfl, fun c hc => by omega⟩
  case round =>
    obtain ⟨rfl, i, hig, rfl, hgs⟩ := hrel
    have Hgs := Lib.hid hgs
    clear hgs
    cases gk with
    | succ m =>
      have d4 : decide ((i : Int) < gl) = true := by simp; omega
      obtain ⟨x, rfl, h4⟩ := K.out.resolve_left (by omega)
      have y0 := h4 i (by omega)
      have t3 : (0 : Int) ≤ (i : Int) := by omega
      have t4 : (i : Int) < (gl : Int) := by omega
      have hstep : z.getD i 0 ≤ 4000 → ∀ c, c < i + 1 → z.getD c 0 ≤ 4000 := fun h c hc => by
        by_cases e : c = i
        · rw [e]; exact h
        · exact Hgs.out c (by omega)
      have Hstep := Lib.hid hstep
      clear hstep h4
      generalize z.getD i 0 = y at *
      by_cases hz : 4000 < y
      · have d5 : decide ((4000 : Int) < y) = true := decide_eq_true hz
        clear hz
        go_wp2
        go_ret
        exact Great2Post.yes _ _ _ _ _ _
      · have d5 : decide ((4000 : Int) < y) = false := decide_eq_false hz
        have Hz := Lib.hid (show y ≤ 4000 by omega)
        clear hz
        go_wp2
        go_roundg m
        case measure => omega
        case rel => exact ⟨rfl, i + 1, by omega, by go_num, Hstep.out Hz.out⟩
    | zero =>
      have d4 : decide ((i : Int) < gl) = false := by simp; omega
      obtain rfl : i = gl := by omega
      have HN := HBB.out rfl
      have h80 := HN.1
      have HNG := Lib.hid HN
      clear HN
      go_wp2
      go_loopg [6, 7] len (fun g v _ wx => w = wx ∧ ∃ i : Nat, i + g = len ∧ v = .int .i64 i ∧ ∀ r, r < i → L r ≤ 20 ∧ ∀ c, c < L r → (Z r).getD c 0 ≤ 4000)
      case atStart => exact ⟨rfl, 0, by omega, rfl, fun r hr => by omega⟩
      case round =>
        obtain ⟨rfl, r, hrg, rfl, hall⟩ := hrel
        have Hall := Lib.hid hall
        clear hall
        cases gk with
        | zero =>
          have d2 : decide ((r : Int) < len) = false := by simp; omega
          obtain rfl : r = len := by omega
          have hfin : Great2Post r L Z i z w (.returned (.bool false)) w := ⟨false, rfl, rfl, fun _ => ⟨h80, hg200, Hall.out, Hgs.out⟩⟩
          have Hfin := Lib.hid hfin
          clear hfin
          go_wp2
          go_ret
          exact Hfin.out
        | succ n =>
          have hin : r < len := by omega
          have d2 : decide ((r : Int) < len) = true := by simp; omega
          obtain ⟨x, rfl, hlc, hcm, hcell⟩ := H.out.resolve_left (by omega)
          obtain ⟨c0, hLC, hCm, hZ, _, hnone, hrow⟩ := hcell r (by omega)
          have t1 : (0 : Int) ≤ (r : Int) := by omega
          have t2 : (r : Int) < (len : Int) := by omega
          have h20 := (HNG.out.2 r hin).1
          have Hrow := Lib.hid hrow
          have Hnone := Lib.hid hnone
          have HZ := Lib.hid hZ
          have HLC := Lib.hid hLC
          clear hcell hrow hnone hZ hlc hcm
          generalize hLi : L r = li at *
          have HLi := Lib.hid hLi
          clear hLi
          have hfin := fun (h : ∀ c, c < li → (Z r).getD c 0 ≤ 4000) => (show ∀ s, s < r + 1 → L s ≤ 20 ∧ ∀ c, c < L s → (Z s).getD c 0 ≤ 4000 from fun s hs => by
            by_cases e : s = r
            · subst e
              rw [HLi.out]
              exact ⟨by omega, h⟩
            · exact Hall.out s (by omega))
          have Hfin := Lib.hid hfin
          clear hfin
          go_wp2
          go_loopg [7] li (fun g v wx => w = wx ∧ ∃ k : Nat, k + g = li ∧ v = .int .i64 k ∧ ∀ c, c < k → (Z r).getD c 0 ≤ 4000)
          case atStart => exact ⟨rfl, 0, by omega, rfl, fun c hc => by omega⟩
          case round =>
            obtain ⟨rfl, k, hkg, rfl, hks⟩ := hrel
            have Hks := Lib.hid hks
            clear hks
            cases gk with
            | zero =>
              have d4 : decide ((k : Int) < li) = false := by simp; omega
              obtain rfl : k = li := by omega
              go_wp2
              go_roundg n
              case measure => omega
              case rel => exact ⟨rfl, r + 1, by omega, by go_num, Hfin.out Hks.out⟩
            | succ m =>
              have d4 : decide ((k : Int) < li) = true := by simp; omega
              obtain ⟨a', ha⟩ : ∃ a', A r = some a' := by
                cases hA : A r with
                | none => have := Hnone.out hA; have := HLC.out; omega
                | some a' => exact ⟨a', rfl⟩
              have y0 := Hrow.out a' ha k (by have := HLC.out; omega)
              rw [ha] at c0
              have t3 : (0 : Int) ≤ (k : Int) := by omega
              have t4 : (k : Int) < (li : Int) := by omega
              have hstep : (Z r).getD k 0 ≤ 4000 → ∀ c, c < k + 1 → (Z r).getD c 0 ≤ 4000 := fun h c hc => by
                by_cases e : c = k
                · rw [e]; exact h
                · exact Hks.out c (by omega)
              have Hstep := Lib.hid hstep
              clear ha hstep
              generalize (Z r).getD k 0 = y at *
              by_cases hz : 4000 < y
              · have d5 : decide ((4000 : Int) < y) = true := decide_eq_true hz
                clear hz
                go_wp2
                go_ret
                exact Great2Post.yes _ _ _ _ _ _
              · have d5 : decide ((4000 : Int) < y) = false := decide_eq_false hz
                have Hz := Lib.hid (show y ≤ 4000 by omega)
                clear hz
                go_wp2
                go_roundg m
                case measure => omega
                case rel => exact ⟨rfl, k + 1, by omega, by go_num, Hstep.out Hz.out⟩


theorem wp_append_any {o : Oper} {a : Act} {K : Act → World → Prop} {Q : Exit → Act → World → Prop} (w : World) (s x : Operand)
    (ho : o.op = .call { callee := .builtin .append, args := #[s, x], argTypes := #[23, 23] })
    (base : Nat) (v : Value) (n : Nat) (xs : List Int) (hs : a.eval s = v) (hown : w.ownsRow base 3 1 v n (xs.map (Value.int .i64)))
    (A : Option Addr) (l c : Nat) (z : List Int) (hx : a.eval x = .slice A l c) (hrow : IsRow .i64 w A l c z) (hb : (n + l) * 8 ≤ 140737488355328) (hbase : base ≤ w.heap.size)
    (h : ∀ v' w', w'.ownsRow base 3 1 v' (n + l) ((xs ++ z.take l).map (Value.int .i64)) → w.grownBy w' v.ownBlock → K (a.put o.dst v') w') : o.wp Try.prog a w K Q := by
  obtain ⟨i0, hi, hz0, hz1, hz2⟩ := info_parts int_info
  rcases hrow with ⟨rfl, rfl, rfl, rfl⟩ | ⟨ad, rfl, h1, h2, h3, h4, _⟩
  · have hrun := run_append_owned_none (P := Try.prog) (w := w) base 23 o.type 3 i0 1 Try.underlying23 hi v n _ hown
    have h1 := h v w (by rw [List.take_nil, List.append_nil]; exact hown) ⟨rfl, rfl, rfl, Nat.le_refl _, fun _ _ _ => rfl⟩
    unfold Oper.wp execOp
    simp only [ho, resolve, invoke, builtin, Sem.run_bind, Sem.run_pure, Result.andThen_ok, List.map_toArray, List.map_cons, List.map_nil, hs, hx]
    rw [hrun]
    exact h1
  · have hlen : (z.take l).length = l := by rw [List.length_take]; omega
    have hnews : ∀ j u, ((z.take l).map (Value.int .i64))[j]? = some u → w.cell? (ad.add j) = some u := by
      intro j u hj
      rw [List.getElem?_map] at hj
      have hjl : j < (z.take l).length := by
        rcases Nat.lt_or_ge j (z.take l).length with h1 | h1
        · exact h1
        · rw [List.getElem?_eq_none h1] at hj; cases hj
      rw [List.getElem?_eq_getElem hjl, List.getElem_take] at hj
      injection hj with hj
      rw [hlen] at hjl
      rw [h4 j (by omega), List.getD_eq_getElem?_getD, List.getElem?_eq_getElem (by omega), ← hj]
      rfl
    have h1c : ∀ u ∈ (z.take l).map (Value.int .i64), u.oneCell' = true := by
      intro u hu
      obtain ⟨x, _, rfl⟩ := List.mem_map.1 hu
      rfl
    exact wp_append_own w s x 23 ho base 3 i0 (.int .i64 0) 1 8 Try.underlying23 hi hz0 hz1 hz2 rfl (by decide) v n _ hs hown ad l c _ hx (by rw [List.length_map, hlen, Nat.mul_one]) hnews h1c (by unfold maxLen; omega) hb hbase
      fun v' w' h2 h3 _ => h v' w' (by rw [List.map_append]; exact h2) h3
theorem list_append_any {ops : Array Oper} {rest : List Oper} {o : Oper} {a : Act} {Q : Exit → Act → World → Prop} (w : World) (hw : Region.wanted o (yielded ops a.tmps) = true) (s x : Operand)
    (ho : o.op = .call { callee := .builtin .append, args := #[s, x], argTypes := #[23, 23] })
    (base : Nat) (v : Value) (n : Nat) (xs : List Int) (hs : a.eval s = v) (hown : w.ownsRow base 3 1 v n (xs.map (Value.int .i64)))
    (A : Option Addr) (l c : Nat) (z : List Int) (hx : a.eval x = .slice A l c) (hrow : IsRow .i64 w A l c z) (hb : (n + l) * 8 ≤ 140737488355328) (hbase : base ≤ w.heap.size)
    (h : ∀ v' w', w'.ownsRow base 3 1 v' (n + l) ((xs ++ z.take l).map (Value.int .i64)) → w.grownBy w' v.ownBlock → wpList Try.prog ops Q rest (a.put o.dst v') w') : wpList Try.prog ops Q (o :: rest) a w :=
  wpList_step fun K hK => by
    rw [if_pos hw]
    exact wp_append_any w s x ho base v n xs hs hown A l c z hx hrow hb hbase fun v' w' h1 h2 => hK _ _ (h v' w' h1 h2)
theorem IsRow.alloc {k : IntKind} {w : World} {A : Option Addr} {l c : Nat} {z : List Int} (h : IsRow k w A l c z) (o : Obj) : IsRow k (w.alloc o) A l c z := by
  rcases h with h | ⟨x, h0, h1, h2, h3, h4, h5⟩
  · exact .inl h
  · exact .inr ⟨x, h0, h1, h2, h3, fun i hi => Lib.cell?_alloc_some _ (h4 i hi), h5⟩
theorem IsGrid.below {w w' : World} {a : Option Addr} {len cap : Nat} {A : Nat → Option Addr} {L C : Nat → Nat} {Z : Nat → List Int} (h : IsGrid w a len cap A L C Z) (hb : Below w.heap.size w w') : IsGrid w' a len cap A L C Z := by
  have hc : ∀ p v, w.cell? p = some v → w'.cell? p = some v := fun p v hv => (hb.cell (World.block_lt_of_cell? _ _ hv)).trans hv
  rcases h with h | ⟨x, h0, h1, h2, h3⟩
  · exact .inl h
  · refine .inr ⟨x, h0, h1, h2, fun r hr => ?_⟩
    obtain ⟨g1, g2, g3, g4, g5, g6, g7⟩ := h3 r hr
    exact ⟨hc _ _ g1, g2, g3, g4, g5, g6, fun a' ha c' hc' => hc _ _ (g7 a' ha c' hc')⟩
theorem own_one (w : World) (x : Int) : (w.alloc (.cells #[.int .i64 x] 3)).ownsRow w.heap.size 3 1 (.slice (some ⟨w.heap.size, 0, none⟩) 1 1) 1 (([x] : List Int).map (Value.int .i64)) :=
  ⟨rfl, .inr ⟨w.heap.size, 1, #[.int .i64 x], rfl, Nat.le_refl _, heap_alloc_new w _, Nat.le_refl _, by decide, rfl, rfl⟩⟩
theorem own_given {w : World} {B n : Nat} {v : Value} {zs : List Int} (h : w.ownsRow B 3 1 v n (zs.map (Value.int .i64))) (hn : n = zs.length) : ∃ GA gc, v = .slice GA n gc ∧ GivenAt w GA n zs := by
  subst hn
  rcases own_cases h rfl with ⟨rfl, h0⟩ | ⟨g, cap, rfl, hown, _, _⟩
  · exact ⟨none, 0, by rw [h0]; rfl, .inl (by rw [h0]; rfl)⟩
  · refine ⟨_, cap, rfl, .inr ⟨_, rfl, fun i hi => ?_⟩⟩
    rw [addr_add, hown.cellAt i (by omega), List.getElem?_map, List.getElem?_eq_getElem hi, List.getD_eq_getElem?_getD, List.getElem?_eq_getElem hi]
    rfl
/-- The same of a slice that came in, with what its datum is. -/
theorem isRow_sized {H : Type} {enc : TypeId × Value → H} {P : Program} {W : World} {b : Nat} {hd : Bool} {t e : TypeId} {k : IntKind} {a : Option Addr} {len cap : Nat} {d : DataW H} {p : List MemPlace}
    (ht : P.underlying t = some (.slice e)) (he : P.underlying e = some (.int k)) (hc : P.cellsOf e = 1) (h : DataW.Trod enc P W b (fun _ => true) hd t (.slice a len cap) d p) : ∃ zs, IsRow k W a len cap zs ∧ (cap = 0 ∨ ∃ el sp, d = .slice el sp ∧ el.length + sp.length = cap) := by
  obtain ⟨fuel, hf⟩ := h
  rcases open_ints ht he hc hf with ⟨hcs, _⟩ | ⟨x, l, c, zs, hcs, _, hl, hm, hz, hd, hcell, hwz⟩
  · simp [Value.cells] at hcs
    obtain ⟨rfl, rfl, rfl⟩ := hcs
    exact ⟨[], .inl ⟨rfl, rfl, rfl, rfl⟩, .inl rfl⟩
  · simp [Value.cells] at hcs
    obtain ⟨rfl, rfl, rfl⟩ := hcs
    have hzl : zs.length = cap := by simpa using hz
    refine ⟨zs, .inr ⟨_, rfl, hl, hm, hzl, hcell, hwz⟩, .inr ⟨_, _, (congrArg Prod.fst hd), ?_⟩⟩
    simp only [lits, List.length_map, List.length_take, List.length_drop]
    omega
end Go.Proofs.Ytfkjojogkdlcgaa

/- great of clauses that were appended to; append of clauses that came in, however many. -/
import Derived.Test.YtfkjojogkdlcgaaUnW
namespace Go.Proofs.Ytfkjojogkdlcgaa
open Go.RowKit Go.Lib

/-- A row of the call's own, grown: what lies below it is as it was. -/
theorem below_grown_own {B : Nat} {w w1 w2 : World} {base n : Nat} {e : TypeId} {v : Value} {xs : List Value} (h : Below B w w1) (hg : w1.grownBy w2 v.ownBlock) (ho : w1.ownsRow base e 1 v n xs) (hB : B ≤ base := by omega) (hs : B ≤ w1.heap.size := by omega) : Below B w w2 :=
  Below.grown h hg hs (fun j hj => by have := (ho.lt j hj).1; omega)
def GridAt (w : World) (a : Option Addr) (len : Nat) (A : Nat → Option Addr) (L C : Nat → Nat) (Z : Nat → List Int) : Prop :=
  len = 0 ∨ ∃ x, a = some x ∧ ∀ r, r < len → w.cell? (x.add r) = some (.slice (A r) (L r) (C r)) ∧ L r ≤ C r ∧ C r ≤ maxLen ∧ (Z r).length = C r ∧ (∀ n ∈ Z r, (Lit.int .i64 n).wf = true) ∧ (A r = none → C r = 0) ∧
    ∀ a', A r = some a' → ∀ c, c < C r → w.cell? (a'.add c) = some (.int .i64 ((Z r).getD c 0))

set_option maxHeartbeats 1000000 in
theorem great15h_ok {w : World} {a : Option Addr} {len cap : Nat} {A : Nat → Option Addr} {L C : Nat → Nat} {Z : Nat → List Int} (h : GridAt w a len A L C Z) (hlm : len ≤ 9223372036854775807) :
    Calls Try.prog 25 #[.slice a len cap] w (GreatPost len L Z w) := by
  have H := Lib.hid h
  clear h
  by_cases h80 : 80 < len
  · have d1 : decide ((80 : Int) < (len : Int)) = true := by simp; omega
    clear h80
    go_enter Try.func25, Try.ntmps25
    go_wp2
    go_ret
    exact GreatPost.yes _ _ _ _
  have d1 : decide ((80 : Int) < (len : Int)) = false := by simp; omega
  go_enter Try.func25, Try.ntmps25
  go_wp2
  go_loopg [3] len (fun g v wx => w = wx ∧ ∃ i : Nat, i + g = len ∧ v = .int .i64 i ∧ ∀ r, r < i → L r ≤ 20 ∧ ∀ c, c < L r → (Z r).getD c 0 ≤ 4096)
  case atStart => exact ⟨rfl, 0, by omega, rfl, fun r hr => by omega⟩
  case round =>
    obtain ⟨rfl, i, hig, rfl, hall⟩ := hrel
    have Hall := Lib.hid hall
    clear hall
    cases gk with
    | zero =>
      have d2 : decide ((i : Int) < len) = false := by simp; omega
      obtain rfl : i = len := by omega
      have hfin : GreatPost i L Z w (.returned (.bool false)) w := ⟨false, rfl, rfl, fun _ => ⟨by omega, Hall.out⟩⟩
      have Hfin := Lib.hid hfin
      clear hfin
      go_wp2
      go_ret
      exact Hfin.out
    | succ n =>
      have hin : i < len := by omega
      have d2 : decide ((i : Int) < len) = true := by simp; omega
      obtain ⟨x, rfl, hcell⟩ := H.out.resolve_left (by omega)
      obtain ⟨c0, hLC, hCm, hZ, _, hnone, hrow⟩ := hcell i (by omega)
      have t1 : (0 : Int) ≤ (i : Int) := by omega
      have t2 : (i : Int) < (len : Int) := by omega
      have Hrow := Lib.hid hrow
      have Hnone := Lib.hid hnone
      have HZ := Lib.hid hZ
      have HLC := Lib.hid hLC
      clear hcell hrow hnone hZ
      generalize hLi : L i = li at *
      have HLi := Lib.hid hLi
      clear hLi
      by_cases h20 : 20 < li
      · have d3 : decide ((20 : Int) < (li : Int)) = true := by simp; omega
        have hli : li ≤ 9223372036854775807 := by have := HLC.out; unfold maxLen at hCm; omega
        clear h20
        go_wp2
        go_ret
        exact GreatPost.yes _ _ _ _
      have d3 : decide ((20 : Int) < (li : Int)) = false := by simp; omega
      have hfin := fun (h : ∀ c, c < li → (Z i).getD c 0 ≤ 4096) => (show ∀ r, r < i + 1 → L r ≤ 20 ∧ ∀ c, c < L r → (Z r).getD c 0 ≤ 4096 from fun r hr => by
        by_cases e : r = i
        · subst e
          rw [HLi.out]
          exact ⟨by omega, h⟩
        · exact Hall.out r (by omega))
      have Hfin := Lib.hid hfin
      clear hfin
      go_wp2
      go_loopg [4] li (fun g v wx => w = wx ∧ ∃ k : Nat, k + g = li ∧ v = .int .i64 k ∧ ∀ c, c < k → (Z i).getD c 0 ≤ 4096)
      case atStart => exact ⟨rfl, 0, by omega, rfl, fun c hc => by omega⟩
      case round =>
        obtain ⟨rfl, k, hkg, rfl, hks⟩ := hrel
        have Hks := Lib.hid hks
        clear hks
        cases gk with
        | zero =>
          have d4 : decide ((k : Int) < li) = false := by simp; omega
          obtain rfl : k = li := by omega
          go_wp2
          go_roundg n
          case measure => omega
          case rel => exact ⟨rfl, i + 1, by omega, by go_num, Hfin.out Hks.out⟩
        | succ m =>
          have d4 : decide ((k : Int) < li) = true := by simp; omega
          obtain ⟨a', ha⟩ : ∃ a', A i = some a' := by
            cases hA : A i with
            | none => have := Hnone.out hA; have := HLC.out; omega
            | some a' => exact ⟨a', rfl⟩
          have y0 := Hrow.out a' ha k (by have := HLC.out; omega)
          rw [ha] at c0
          have t3 : (0 : Int) ≤ (k : Int) := by omega
          have t4 : (k : Int) < (li : Int) := by omega
          have hstep : (Z i).getD k 0 ≤ 4096 → ∀ c, c < k + 1 → (Z i).getD c 0 ≤ 4096 := fun h c hc => by
            by_cases e : c = k
            · rw [e]; exact h
            · exact Hks.out c (by omega)
          have Hstep := Lib.hid hstep
          clear ha hstep
          generalize (Z i).getD k 0 = z at *
          by_cases hz : 4096 < z
          · have d5 : decide ((4096 : Int) < z) = true := decide_eq_true hz
            clear hz
            go_wp2
            go_ret
            exact GreatPost.yes _ _ _ _
          · have d5 : decide ((4096 : Int) < z) = false := decide_eq_false hz
            have Hz := Lib.hid (show z ≤ 4096 by omega)
            clear hz
            go_wp2
            go_roundg m
            case measure => omega
            case rel => exact ⟨rfl, k + 1, by omega, by go_num, Hstep.out Hz.out⟩
set_option maxHeartbeats 1000000 in
theorem great16h_ok {w : World} {a : Option Addr} {len cap : Nat} {A : Nat → Option Addr} {L C : Nat → Nat} {Z : Nat → List Int} (h : GridAt w a len A L C Z) (hlm : len ≤ 9223372036854775807) {ga : Option Addr} {gl gc : Nat} {z : List Int} (k : GivenAt w ga gl z) (hgm : gl ≤ 9223372036854775807) :
    Calls Try.prog 10 #[.slice a len cap, .slice ga gl gc] w (Great2Post len L Z gl z w) := by
  have H := Lib.hid h
  have K := Lib.hid k
  clear h k
  go_enter Try.func10, Try.ntmps10
  go_wp2_with (go_at_call 25; (with_reducible refine (great15h_ok H.out hlm).mono ?_); rintro e w1 ⟨bb, rfl, rfl, hbb⟩; have HBB := Lib.hid hbb; clear hbb; cases bb)
  · go_ret
    exact Great2Post.yes _ _ _ _ _ _
  rotate_left
  · go_ret
    exact Great2Post.yes _ _ _ _ _ _
  have hg200 : gl ≤ 200 := by
    have : (gl : Int) ≤ 200 := by assumption
    omega
  go_loopg [5] gl (fun g v wx => w = wx ∧ ∃ i : Nat, i + g = gl ∧ v = .int .i64 i ∧ ∀ c, c < i → z.getD c 0 ≤ 4000)
  case atStart => exact ⟨rfl, 0, by omega, rfl, fun c hc => by omega⟩
  case round =>
    obtain ⟨rfl, i, hig, rfl, hgs⟩ := hrel
    have Hgs := Lib.hid hgs
    clear hgs
    cases gk with
    | succ m =>
      have d4 : decide ((i : Int) < gl) = true := by simp; omega
      obtain ⟨x, rfl, h4⟩ := K.out.resolve_left (by omega)
      have y0 := h4 i (by omega)
      have t3 : (0 : Int) ≤ (i : Int) := by omega
      have t4 : (i : Int) < (gl : Int) := by omega
      have hstep : z.getD i 0 ≤ 4000 → ∀ c, c < i + 1 → z.getD c 0 ≤ 4000 := fun h c hc => by
        by_cases e : c = i
        · rw [e]; exact h
        · exact Hgs.out c (by omega)
      have Hstep := Lib.hid hstep
      clear hstep h4
      generalize z.getD i 0 = y at *
      by_cases hz : 4000 < y
      · have d5 : decide ((4000 : Int) < y) = true := decide_eq_true hz
        clear hz
        go_wp2
        go_ret
        exact Great2Post.yes _ _ _ _ _ _
      · have d5 : decide ((4000 : Int) < y) = false := decide_eq_false hz
        have Hz := Lib.hid (show y ≤ 4000 by omega)
        clear hz
        go_wp2
        go_roundg m
        case measure => omega
        case rel => exact ⟨rfl, i + 1, by omega, by go_num, Hstep.out Hz.out⟩
    | zero =>
      have d4 : decide ((i : Int) < gl) = false := by simp; omega
      obtain rfl : i = gl := by omega
      have HN := HBB.out rfl
      have h80 := HN.1
      have HNG := Lib.hid HN
      clear HN
      go_wp2
      go_loopg [6, 7] len (fun g v _ wx => w = wx ∧ ∃ i : Nat, i + g = len ∧ v = .int .i64 i ∧ ∀ r, r < i → L r ≤ 20 ∧ ∀ c, c < L r → (Z r).getD c 0 ≤ 4000)
      case atStart => exact ⟨rfl, 0, by omega, rfl, fun r hr => by omega⟩
      case round =>
        obtain ⟨rfl, r, hrg, rfl, hall⟩ := hrel
        have Hall := Lib.hid hall
        clear hall
        cases gk with
        | zero =>
          have d2 : decide ((r : Int) < len) = false := by simp; omega
          obtain rfl : r = len := by omega
          have hfin : Great2Post r L Z i z w (.returned (.bool false)) w := ⟨false, rfl, rfl, fun _ => ⟨h80, hg200, Hall.out, Hgs.out⟩⟩
          have Hfin := Lib.hid hfin
          clear hfin
          go_wp2
          go_ret
          exact Hfin.out
        | succ n =>
          have hin : r < len := by omega
          have d2 : decide ((r : Int) < len) = true := by simp; omega
          obtain ⟨x, rfl, hcell⟩ := H.out.resolve_left (by omega)
          obtain ⟨c0, hLC, hCm, hZ, _, hnone, hrow⟩ := hcell r (by omega)
          have t1 : (0 : Int) ≤ (r : Int) := by omega
          have t2 : (r : Int) < (len : Int) := by omega
          have h20 := (HNG.out.2 r hin).1
          have Hrow := Lib.hid hrow
          have Hnone := Lib.hid hnone
          have HZ := Lib.hid hZ
          have HLC := Lib.hid hLC
          clear hcell hrow hnone hZ
          generalize hLi : L r = li at *
          have HLi := Lib.hid hLi
          clear hLi
          have hfin := fun (h : ∀ c, c < li → (Z r).getD c 0 ≤ 4000) => (show ∀ s, s < r + 1 → L s ≤ 20 ∧ ∀ c, c < L s → (Z s).getD c 0 ≤ 4000 from fun s hs => by
            by_cases e : s = r
            · subst e
              rw [HLi.out]
              exact ⟨by omega, h⟩
            · exact Hall.out s (by omega))
          have Hfin := Lib.hid hfin
          clear hfin
          go_wp2
          go_loopg [7] li (fun g v wx => w = wx ∧ ∃ k : Nat, k + g = li ∧ v = .int .i64 k ∧ ∀ c, c < k → (Z r).getD c 0 ≤ 4000)
          case atStart => exact ⟨rfl, 0, by omega, rfl, fun c hc => by omega⟩
          case round =>
            obtain ⟨rfl, k, hkg, rfl, hks⟩ := hrel
            have Hks := Lib.hid hks
            clear hks
            cases gk with
            | zero =>
              have d4 : decide ((k : Int) < li) = false := by simp; omega
              obtain rfl : k = li := by omega
              go_wp2
              go_roundg n
              case measure => omega
              case rel => exact ⟨rfl, r + 1, by omega, by go_num, Hfin.out Hks.out⟩
            | succ m =>
              have d4 : decide ((k : Int) < li) = true := by simp; omega
              obtain ⟨a', ha⟩ : ∃ a', A r = some a' := by
                cases hA : A r with
                | none => have := Hnone.out hA; have := HLC.out; omega
                | some a' => exact ⟨a', rfl⟩
              have y0 := Hrow.out a' ha k (by have := HLC.out; omega)
              rw [ha] at c0
              have t3 : (0 : Int) ≤ (k : Int) := by omega
              have t4 : (k : Int) < (li : Int) := by omega
              have hstep : (Z r).getD k 0 ≤ 4000 → ∀ c, c < k + 1 → (Z r).getD c 0 ≤ 4000 := fun h c hc => by
                by_cases e : c = k
                · rw [e]; exact h
                · exact Hks.out c (by omega)
              have Hstep := Lib.hid hstep
              clear ha hstep
              generalize (Z r).getD k 0 = y at *
              by_cases hz : 4000 < y
              · have d5 : decide ((4000 : Int) < y) = true := decide_eq_true hz
                clear hz
                go_wp2
                go_ret
                exact Great2Post.yes _ _ _ _ _ _
              · have d5 : decide ((4000 : Int) < y) = false := decide_eq_false hz
                have Hz := Lib.hid (show y ≤ 4000 by omega)
                clear hz
                go_wp2
                go_roundg m
                case measure => omega
                case rel => exact ⟨rfl, k + 1, by omega, by go_num, Hstep.out Hz.out⟩



theorem grid_vals {w : World} {a : Option Addr} {len cap : Nat} {A : Nat → Option Addr} {L C : Nat → Nat} {Z : Nat → List Int} (h : IsGrid w a len cap A L C Z) {r : Nat} (hr : r < len) : encR (A r, C r, (Z r).take (L r)) = .slice (A r) (L r) (C r) := by
  rcases h with ⟨_, rfl, _⟩ | ⟨x, _, h1, h2, h3⟩
  · omega
  · obtain ⟨g1, g2, g3, g4, _⟩ := h3 r (by omega)
    unfold encR
    have : ((Z r).take (L r)).length = L r := by rw [List.length_take]; omega
    simp only [this]
theorem gridRows_len {len : Nat} {A : Nat → Option Addr} {L C : Nat → Nat} {Z : Nat → List Int} : (gridRows len A L C Z).length = len := by unfold gridRows; rw [List.length_map, List.length_range]
theorem gridRows_get {len : Nat} {A : Nat → Option Addr} {L C : Nat → Nat} {Z : Nat → List Int} {r : Nat} (h : r < len) : (gridRows len A L C Z)[r]? = some (A r, C r, (Z r).take (L r)) := by
  unfold gridRows
  rw [List.getElem?_map, List.getElem?_range h]
  rfl

theorem wp_append_rows {o : Oper} {a : Act} {K : Act → World → Prop} {Q : Exit → Act → World → Prop} (w : World) (s x : Operand)
    (ho : o.op = .call { callee := .builtin .append, args := #[s, x], argTypes := #[22, 22] })
    (base : Nat) (v : Value) (n : Nat) (xs : List (Option Addr × Nat × List Int)) (hs : a.eval s = v) (hown : w.ownsRow base 23 1 v n (xs.map encR))
    (G : Option Addr) (l c : Nat) (R : List (Option Addr × Nat × List Int)) (hx : a.eval x = .slice G l c) (hl : R.length = l) (hn : G = none → l = 0 ∧ c = 0) (hcells : ∀ ad, G = some ad → ∀ j (h : j < R.length), w.cell? (ad.add j) = some (encR R[j])) (hb : (n + l) * 24 ≤ 140737488355328) (hbase : base ≤ w.heap.size)
    (h : ∀ v' w', w'.ownsRow base 23 1 v' (n + l) ((xs ++ R).map encR) → w.grownBy w' v.ownBlock → K (a.put o.dst v') w') : o.wp Try.prog a w K Q := by
  obtain ⟨i0, hi, hz0, hz1, hz2⟩ := info_parts slice_info
  cases G with
  | none =>
    obtain ⟨rfl, rfl⟩ := hn rfl
    have hR : R = [] := List.eq_nil_of_length_eq_zero hl
    subst hR
    have hrun := run_append_owned_none (P := Try.prog) (w := w) base 22 o.type 23 i0 1 Try.underlying22 hi v n _ hown
    have h1 := h v w (by rw [List.append_nil]; exact hown) ⟨rfl, rfl, rfl, Nat.le_refl _, fun _ _ _ => rfl⟩
    unfold Oper.wp execOp
    simp only [ho, resolve, invoke, builtin, Sem.run_bind, Sem.run_pure, Result.andThen_ok, List.map_toArray, List.map_cons, List.map_nil, hs, hx]
    rw [hrun]
    exact h1
  | some ad =>
    have hnews : ∀ j u, (R.map encR)[j]? = some u → w.cell? (ad.add j) = some u := by
      intro j u hj
      rw [List.getElem?_map] at hj
      have hjl : j < R.length := by
        rcases Nat.lt_or_ge j R.length with h1 | h1
        · exact h1
        · rw [List.getElem?_eq_none h1] at hj; cases hj
      rw [List.getElem?_eq_getElem hjl] at hj
      injection hj with hj
      rw [hcells ad rfl j hjl, ← hj]
    have h1c : ∀ u ∈ R.map encR, u.oneCell' = true := by
      intro u hu
      obtain ⟨x, _, rfl⟩ := List.mem_map.1 hu
      rfl
    exact wp_append_own w s x 22 ho base 23 i0 (.slice none 0 0) 1 24 Try.underlying22 hi hz0 hz1 hz2 rfl (by decide) v n _ hs hown ad l c _ hx (by rw [List.length_map, hl, Nat.mul_one]) hnews h1c (by unfold maxLen; omega) hb hbase
      fun v' w' h2 h3 _ => h v' w' (by rw [List.map_append]; exact h2) h3
theorem list_append_rows {ops : Array Oper} {rest : List Oper} {o : Oper} {a : Act} {Q : Exit → Act → World → Prop} (w : World) (hw : Region.wanted o (yielded ops a.tmps) = true) (s x : Operand)
    (ho : o.op = .call { callee := .builtin .append, args := #[s, x], argTypes := #[22, 22] })
    (base : Nat) (v : Value) (n : Nat) (xs : List (Option Addr × Nat × List Int)) (hs : a.eval s = v) (hown : w.ownsRow base 23 1 v n (xs.map encR))
    (G : Option Addr) (l c : Nat) (R : List (Option Addr × Nat × List Int)) (hx : a.eval x = .slice G l c) (hl : R.length = l) (hn : G = none → l = 0 ∧ c = 0) (hcells : ∀ ad, G = some ad → ∀ j (h : j < R.length), w.cell? (ad.add j) = some (encR R[j])) (hb : (n + l) * 24 ≤ 140737488355328) (hbase : base ≤ w.heap.size)
    (h : ∀ v' w', w'.ownsRow base 23 1 v' (n + l) ((xs ++ R).map encR) → w.grownBy w' v.ownBlock → wpList Try.prog ops Q rest (a.put o.dst v') w') : wpList Try.prog ops Q (o :: rest) a w :=
  wpList_step fun K hK => by
    rw [if_pos hw]
    exact wp_append_rows w s x ho base v n xs hs hown G l c R hx hl hn hcells hb hbase fun v' w' h1 h2 => hK _ _ (h v' w' h1 h2)
theorem own_emptyR (w : World) : (w.alloc (.cells #[] 23)).ownsRow w.heap.size 23 1 (.slice (some ⟨w.heap.size, 0, none⟩) 0 0) 0 (([] : List (Option Addr × Nat × List Int)).map encR) :=
  ⟨rfl, .inr ⟨w.heap.size, 0, #[], rfl, Nat.le_refl _, heap_alloc_new w _, Nat.le_refl _, Nat.zero_le _, rfl, rfl⟩⟩
/-- What is asked of clauses that came in, that they be appended. -/
theorem IsGrid.news {w W : World} {a : Option Addr} {len cap : Nat} {A : Nat → Option Addr} {L C : Nat → Nat} {Z : Nat → List Int} (h : IsGrid w a len cap A L C Z) (hb : Below w.heap.size w W) : (gridRows len A L C Z).length = len ∧ (a = none → len = 0 ∧ cap = 0) ∧ ∀ ad, a = some ad → ∀ j (hj : j < (gridRows len A L C Z).length), W.cell? (ad.add j) = some (encR (gridRows len A L C Z)[j]) := by
  refine ⟨gridRows_len, fun ha => ?_, fun ad ha j hj => ?_⟩
  · rcases h with ⟨_, h1, h2⟩ | ⟨x, h0, _⟩
    · exact ⟨h1, h2⟩
    · rw [ha] at h0; cases h0
  · have hj' : j < len := by rw [gridRows_len] at hj; exact hj
    have e1 : (gridRows len A L C Z)[j] = (A j, C j, (Z j).take (L j)) := by
      have := gridRows_get (A := A) (L := L) (C := C) (Z := Z) hj'
      rw [List.getElem?_eq_getElem hj] at this
      injection this
    rw [e1, grid_vals h hj']
    rcases h with ⟨_, h1, h2⟩ | ⟨x, h0, h1, h2, h3⟩
    · omega
    · rw [ha] at h0
      injection h0 with h0
      subst h0
      have hc := (h3 j (by omega)).1
      exact (hb.cell (World.block_lt_of_cell? _ _ hc)).trans hc
/-- Clauses appended to clauses, as great is told of them. -/
theorem grid_both {w W : World} {B : Nat} {v : Value} {a a2 : Option Addr} {l c l2 c2 : Nat} {A A2 : Nat → Option Addr} {L C L2 C2 : Nat → Nat} {Z Z2 : Nat → List Int} (h : IsGrid w a l c A L C Z) (k : IsGrid w a2 l2 c2 A2 L2 C2 Z2) (hb : Below w.heap.size w W)
    (ho : W.ownsRow B 23 1 v (l + l2) ((gridRows l A L C Z ++ gridRows l2 A2 L2 C2 Z2).map encR)) :
    ∃ GA gc, v = .slice GA (l + l2) gc ∧ GridAt W GA (l + l2) (fun r => if r < l then A r else A2 (r - l)) (fun r => if r < l then L r else L2 (r - l)) (fun r => if r < l then C r else C2 (r - l)) (fun r => if r < l then Z r else Z2 (r - l)) := by
  obtain ⟨GA, gc, rfl⟩ := own_slice ho
  refine ⟨GA, gc, rfl, ?_⟩
  rcases Nat.eq_zero_or_pos (l + l2) with h0 | h0
  · exact .inl h0
  obtain ⟨g, cap, hv, _, _, hcap⟩ := own_form ho h0
  injection hv with hv1 _ hv3
  subst hv1 hv3
  refine .inr ⟨_, rfl, fun r hr => ?_⟩
  rw [addr_add, ho.cellAt r (by omega), List.getElem?_map]
  have hcl : ∀ p v, w.cell? p = some v → W.cell? p = some v := fun p v hv => (hb.cell (World.block_lt_of_cell? _ _ hv)).trans hv
  by_cases hrl : r < l
  · simp only [if_pos hrl]
    rw [List.getElem?_append_left (by rw [gridRows_len]; exact hrl), gridRows_get hrl]
    refine ⟨congrArg some (grid_vals h hrl), ?_⟩
    rcases h with ⟨_, h1, h2⟩ | ⟨x, h0, h1, h2, h3⟩
    · omega
    · obtain ⟨_, g2, g3, g4, g5, g6, g7⟩ := h3 r (by omega)
      exact ⟨g2, g3, g4, g5, g6, fun a' ha c' hc' => hcl _ _ (g7 a' ha c' hc')⟩
  · simp only [if_neg hrl]
    have hr2 : r - l < l2 := by omega
    rw [List.getElem?_append_right (by rw [gridRows_len]; omega), gridRows_len, gridRows_get hr2]
    refine ⟨congrArg some (grid_vals k hr2), ?_⟩
    rcases k with ⟨_, h1, h2⟩ | ⟨x, h0, h1, h2, h3⟩
    · omega
    · obtain ⟨_, g2, g3, g4, g5, g6, g7⟩ := h3 (r - l) (by omega)
      exact ⟨g2, g3, g4, g5, g6, fun a' ha c' hc' => hcl _ _ (g7 a' ha c' hc')⟩
end Go.Proofs.Ytfkjojogkdlcgaa

/- Cells of small ints; the assignment that numbers make, node by node. -/
import Derived.Test.YtlipnnibagidiaaGreatRdF
namespace Go.Proofs.YtlipnnibagidiaaGreat
def bitI (p : Prop) [Decidable p] : Int := if p then 1 else 0
structure Sem (T : List Nd) (val : Int → Int) : Prop where
  bool : ∀ i : Int, 0 ≤ i → i < T.length → (ndAt T i).sort = 0 → val i = 0 ∨ val i = 1
  tru : ∀ i : Int, 0 ≤ i → i < T.length → (ndAt T i).op = 0 → val i = 1
  not : ∀ i : Int, 0 ≤ i → i < T.length → (ndAt T i).op = 1 → val i = 1 - val (ndAt T i).a0
  and : ∀ i : Int, 0 ≤ i → i < T.length → (ndAt T i).op = 2 → val i = val (ndAt T i).a0 * val (ndAt T i).a1
  or : ∀ i : Int, 0 ≤ i → i < T.length → (ndAt T i).op = 3 → val i = max (val (ndAt T i).a0) (val (ndAt T i).a1)
  eq : ∀ i : Int, 0 ≤ i → i < T.length → (ndAt T i).op = 6 → val i = bitI (val (ndAt T i).a0 = val (ndAt T i).a1)
  ite : ∀ i : Int, 0 ≤ i → i < T.length → (ndAt T i).op = 7 → val i = if val (ndAt T i).a0 = 1 then val (ndAt T i).a1 else val (ndAt T i).a2
  num : ∀ i : Int, 0 ≤ i → i < T.length → (ndAt T i).op = 10 → val i = (ndAt T i).num
  add : ∀ i : Int, 0 ≤ i → i < T.length → (ndAt T i).op = 11 → val i = val (ndAt T i).a0 + (ndAt T i).num
  diff : ∀ i : Int, 0 ≤ i → i < T.length → (ndAt T i).op = 12 → val i = bitI (val (ndAt T i).a0 - val (ndAt T i).a1 ≤ (ndAt T i).num)
end Go.Proofs.YtlipnnibagidiaaGreat
namespace Go.Proofs.YtlipnnibagidiaaGreat
theorem idx_at {T : List Nd} {n : Nd} (h : n ∈ T) : ndAt T (T.idxOf n : Nat) = n := by
  have hl := List.idxOf_lt_length_iff.2 h
  rw [ndAt_nat hl]
  simp
structure SemI (T : List Nd) (val : Int → Int) : Prop where
  eq : ∀ i : Int, 0 ≤ i → i < T.length → (ndAt T i).op = 6 → val i = bitI (val (ndAt T i).a0 = val (ndAt T i).a1)
  num : ∀ i : Int, 0 ≤ i → i < T.length → (ndAt T i).op = 10 → val i = (ndAt T i).num
  add : ∀ i : Int, 0 ≤ i → i < T.length → (ndAt T i).op = 11 → val i = val (ndAt T i).a0 + (ndAt T i).num
  diff : ∀ i : Int, 0 ≤ i → i < T.length → (ndAt T i).op = 12 → val i = bitI (val (ndAt T i).a0 - val (ndAt T i).a1 ≤ (ndAt T i).num)
theorem bitI_cases (p : Prop) [Decidable p] : bitI p = 0 ∨ bitI p = 1 := by
  unfold bitI
  split
  · exact .inr rfl
  · exact .inl rfl
theorem semI_base {T : List Nd} (hc : CoreT T) {val : Int → Int} (hv : SemI T val) {x : Int} (hx : Shd T x) : val x = val (baseT T x).1 + (baseT T x).2 := by
  unfold baseT
  split
  · rename_i h11
    exact hv.add x hx.lo hx.hi h11
  · split
    · rename_i h10
      have h1 : ndAt T 1 = zeroNd := ndAt_some (i := 1) hc.ok.t1
      have hl := hc.ok.len
      have z := hv.num 1 (by decide) (by omega) (by rw [h1]; rfl)
      rw [h1] at z
      have z' : val 1 = 0 := z
      have := hv.num x hx.lo hx.hi h10
      show val x = val 1 + (ndAt T x).num
      omega
    · show val x = val x + 0
      omega
theorem worlds_hold {T T' : List Nd} (hc : CoreT T) (hs : SumT T) {most : Int} (he : (putS T most).e = 0) (hT : (putS T most).T = T') {val : Int → Int} (hv : SemI T' val) {a : Int → Int} (ha : ∀ i : Int, 0 ≤ i → i < T'.length → (ndAt T' i).sort = 0 → a i = 2 - val i) : ∀ c ∈ allT T', ∃ x ∈ c, litOn a x := by
  rcases putS_is hc hs most with ⟨_, g, l, hl⟩ | ⟨h, _⟩
  rotate_left
  · rw [he] at h
    rcases h with h | h <;> cases h
  rw [hT] at g l
  have e := nodesT_grew g
  have hs' := hs.grew g hc
  have key : clsOn (fun i => if a i = 1 then 1 else 2) (allT T') := by
    have two : ∀ n : Nd, n ∈ T' → n.op = 6 ∨ n.op = 12 → n.sort = 0 → (val (T'.idxOf n : Nat) = 0 ∨ val (T'.idxOf n : Nat) = 1) ∧ a (T'.idxOf n : Nat) = 2 - val (T'.idxOf n : Nat) := fun n hn ho h0 => by
      have hl := List.idxOf_lt_length_iff.2 hn
      have h1 := idx_at hn
      refine ⟨?_, ha _ (by omega) (by omega) (by rw [h1]; exact h0)⟩
      rcases ho with ho | ho
      · rw [hv.eq ((T'.idxOf n : Nat) : Int) (by omega) (by omega) (by rw [h1]; exact ho)]
        exact bitI_cases _
      · rw [hv.diff ((T'.idxOf n : Nat) : Int) (by omega) (by omega) (by rw [h1]; exact ho)]
        exact bitI_cases _
    refine all_hold (val := val) (by rw [e]; exact l) (fun x hx => semI_base g.core hv (mem_nodes hx).1) (fun x y hx hy hb => base_inj g.core (mem_nodes hx).1 (mem_nodes hy).1 hb) (fun i => ?_) (fun x y hx hy hxy hm => ?_) (fun b c d hm => ?_)
    · split
      · exact .inl rfl
      · exact .inr rfl
    · obtain ⟨v, ea⟩ := two _ hm (.inl rfl) rfl
      have hl := List.idxOf_lt_length_iff.2 hm
      have h1 := idx_at hm
      have hq := hv.eq ((T'.idxOf (eqNd x y) : Nat) : Int) (by omega) (by omega) (by rw [h1]; rfl)
      rw [h1] at hq
      have hq' : val (T'.idxOf (eqNd x y) : Nat) = bitI (val x = val y) := hq
      unfold bitI at hq'
      by_cases hxy' : val x = val y
      · rw [if_pos hxy'] at hq'
        simp [ea, hq', hxy']
      · rw [if_neg hxy'] at hq'
        simp [ea, hq', hxy']
    · obtain ⟨v, ea⟩ := two _ hm (.inr rfl) rfl
      have hl := List.idxOf_lt_length_iff.2 hm
      have h1 := idx_at hm
      have hq := hv.diff ((T'.idxOf (diffNd b c d) : Nat) : Int) (by omega) (by omega) (by rw [h1]; rfl)
      rw [h1] at hq
      have hq' : val (T'.idxOf (diffNd b c d) : Nat) = bitI (val b - val c ≤ d) := hq
      unfold bitI at hq'
      by_cases hxy' : val b - val c ≤ d
      · rw [if_pos hxy'] at hq'
        simp [ea, hq', hxy']
      · rw [if_neg hxy'] at hq'
        simp [ea, hq', hxy']
  intro c hcl
  obtain ⟨x, hx, hon⟩ := key c hcl
  refine ⟨x, hx, ?_⟩
  have hnode : ∃ n ∈ T', (n.op = 6 ∨ n.op = 12) ∧ n.sort = 0 ∧ x / 2 = (T'.idxOf n : Nat) := by
    unfold allT at hcl
    obtain ⟨p, hp, hc2⟩ := List.mem_flatMap.1 hcl
    rw [e] at hp
    have hlp := l p hp
    unfold of2 at hc2
    rw [if_pos hlp.eq, if_pos hlp.may] at hc2
    have f0 := litT_half (T := T') (n := eqNd p.1 p.2)
    rcases hlp.dif with hb | ⟨hb, d1, d2⟩
    · rw [if_pos hb] at hc2
      simp at hc2
      subst hc2
      obtain rfl := List.mem_singleton.1 hx
      exact ⟨_, hlp.eq, .inl rfl, rfl, f0.2.2.1⟩
    · rw [if_neg hb, if_pos ⟨d1, d2⟩] at hc2
      have f1 := litT_half (T := T') (n := diffNd (baseT T' p.1).1 (baseT T' p.2).1 (difN T' p.1 p.2))
      have f2 := litT_half (T := T') (n := diffNd (baseT T' p.2).1 (baseT T' p.1).1 (difN T' p.2 p.1))
      simp only [Option.getD_some, List.mem_cons, List.not_mem_nil, or_false] at hc2
      rcases hc2 with rfl | rfl | rfl
      · have hx' := ((mem_make _ _).1 hx).1
        simp only [List.mem_cons, List.not_mem_nil, or_false] at hx'
        rcases hx' with rfl | rfl
        · exact ⟨_, hlp.eq, .inl rfl, rfl, f0.2.2.1⟩
        · exact ⟨_, d1, .inr rfl, rfl, f1.1⟩
      · have hx' := ((mem_make _ _).1 hx).1
        simp only [List.mem_cons, List.not_mem_nil, or_false] at hx'
        rcases hx' with rfl | rfl
        · exact ⟨_, hlp.eq, .inl rfl, rfl, f0.2.2.1⟩
        · exact ⟨_, d2, .inr rfl, rfl, f2.1⟩
      · have hx' := ((mem_make _ _).1 hx).1
        simp only [List.mem_cons, List.not_mem_nil, or_false] at hx'
        rcases hx' with rfl | rfl | rfl
        · exact ⟨_, hlp.eq, .inl rfl, rfl, f0.1⟩
        · exact ⟨_, d1, .inr rfl, rfl, f1.2.2.1⟩
        · exact ⟨_, d2, .inr rfl, rfl, f2.2.2.1⟩
  obtain ⟨n, hn, ho, h0, hxi⟩ := hnode
  have hl := List.idxOf_lt_length_iff.2 hn
  have h1 := idx_at hn
  have h2 := ha (x / 2) (by omega) (by omega) (by rw [hxi, h1]; exact h0)
  have hv2 : val (x / 2) = 0 ∨ val (x / 2) = 1 := by
    rcases ho with ho | ho
    · rw [hv.eq (x / 2) (by omega) (by omega) (by rw [hxi, h1]; exact ho)]
      exact bitI_cases _
    · rw [hv.diff (x / 2) (by omega) (by omega) (by rw [hxi, h1]; exact ho)]
      exact bitI_cases _
  unfold litOn at hon ⊢
  dsimp only at hon
  rcases hv2 with h | h
  · rw [h] at h2
    rw [if_neg (by omega)] at hon
    omega
  · rw [h] at h2
    rw [if_pos (by omega)] at hon
    omega
end Go.Proofs.YtlipnnibagidiaaGreat
namespace Go.Proofs.YtlipnnibagidiaaGreat
open Go.RowKit Go.Lib
structure Row8 (w : World) (A : Option Addr) (zs : List Int) : Prop where
  len : zs.length ≤ 100000
  at_ : zs.length = 0 ∨ ∃ b off, A = some ⟨b, off, none⟩ ∧ b < w.heap.size ∧ ∀ i (h : i < zs.length), w.cell? ⟨b, off + i, none⟩ = some (.int .i8 zs[i])
def valM (vals : List Int) (lit : Int) : Int :=
  if lit < 0 then 0 else match vals[(lit / 2).toNat]? with
    | none => 0
    | some v => if v = 1 then (if lit % 2 = 0 then 1 else 2) else if v = 2 then (if lit % 2 = 0 then 2 else 1) else 0
theorem val15_ok {w : World} {A : Option Addr} {vals : List Int} (cap : Nat) (hv : Row8 w A vals) (lit : Int) (hl : lit ≤ 9223372036854775807) :
    Calls Tryz.prog 109 #[.slice A vals.length cap, .int .i64 lit] w fun e w' => e = .returned (.int .i8 (valM vals lit)) ∧ w = w' := by
  have hlen := hv.len
  by_cases h0 : lit < 0
  · have d0 : decide (lit < 0) = true := decide_eq_true h0
    have e : valM vals lit = 0 := by unfold valM; rw [if_pos h0]
    rw [e]
    clear e hv hlen
    go_enter Tryz.func109, Tryz.ntmps109
    go_wp2
    go_ret
    exact ⟨rfl, rfl⟩
  have d0 : decide (lit < 0) = false := decide_eq_false h0
  obtain ⟨q, hq⟩ : ∃ q : Nat, lit / 2 = q := ⟨(lit / 2).toNat, by omega⟩
  have e1 : valM vals lit = match vals[q]? with
    | none => 0
    | some v => if v = 1 then (if lit % 2 = 0 then 1 else 2) else if v = 2 then (if lit % 2 = 0 then 2 else 1) else 0 := by
    unfold valM
    rw [if_neg h0, hq]
    rfl
  rw [e1]
  clear e1
  by_cases h1 : q < vals.length
  · have d1 : decide ((vals.length : Int) ≤ (q : Int)) = false := decide_eq_false (by omega)
    rw [List.getElem?_eq_getElem h1]
    rcases hv.at_ with h2 | ⟨b, off, rfl, hb, hc⟩
    · omega
    have c0 := hc q h1
    have hand : bits .and .i64 lit 1 = lit % 2 := i64_and_one lit (by omega) (by omega)
    generalize hvq : vals[q] = v at *
    have t1 : (q : Int) < (vals.length : Int) := by omega
    have t2 : (0 : Int) ≤ (q : Int) := by omega
    clear hc hv hvq h0
    by_cases hv1 : v = 1
    · subst hv1
      simp only [if_true]
      by_cases hp : lit % 2 = 0
      · rw [hp] at hand
        rw [if_pos hp]
        clear hp
        go_enter Tryz.func109, Tryz.ntmps109
        go_wp2
        go_ret
        exact ⟨rfl, rfl⟩
      · have hp1 : lit % 2 = 1 := by omega
        rw [hp1] at hand
        rw [if_neg hp]
        clear hp hp1
        go_enter Tryz.func109, Tryz.ntmps109
        go_wp2
        go_ret
        exact ⟨rfl, rfl⟩
    · by_cases hv2 : v = 2
      · subst hv2
        simp only [if_true, if_neg hv1]
        by_cases hp : lit % 2 = 0
        · rw [hp] at hand
          rw [if_pos hp]
          clear hp hv1
          go_enter Tryz.func109, Tryz.ntmps109
          go_wp2
          go_ret
          exact ⟨rfl, rfl⟩
        · have hp1 : lit % 2 = 1 := by omega
          rw [hp1] at hand
          rw [if_neg hp]
          clear hp hp1 hv1
          go_enter Tryz.func109, Tryz.ntmps109
          go_wp2
          go_ret
          exact ⟨rfl, rfl⟩
      · have b1 : (v != 1) = true := by simpa using hv1
        have b2 : (v != 2) = true := by simpa using hv2
        simp only [if_neg hv1, if_neg hv2]
        clear hv1 hv2 hand
        go_enter Tryz.func109, Tryz.ntmps109
        go_wp2
        go_ret
        exact ⟨rfl, rfl⟩
  · have d1 : decide ((vals.length : Int) ≤ (q : Int)) = true := decide_eq_true (by omega)
    have d2 : vals.length ≤ q := by omega
    rw [List.getElem?_eq_none (by omega)]
    clear hv h1
    go_enter Tryz.func109, Tryz.ntmps109
    go_wp2
    go_ret
    exact ⟨rfl, rfl⟩
set_option maxHeartbeats 1000000 in
theorem state15t_ok {w : World} {A B : Option Addr} {c vals : List Int} (cap cap2 : Nat) (hc : Row w A c) (hv : Row8 w B vals) (hm : ∀ x ∈ c, x ≤ 9223372036854775807) (ht : ∃ x ∈ c, valM vals x = 1) :
    Calls Tryz.prog 67 #[.slice A c.length cap, .slice B vals.length cap2] w fun e w' => e = .returned (.tuple #[.int .i8 0, .int .i64 (-1)]) ∧ w = w' := by
  have hlen := hc.len
  have Hc := zzh hc
  have Hv := zzh hv
  have Hm := zzh hm
  have Ht := zzh ht
  clear hc hv hm ht
  go_enter Tryz.func67, Tryz.ntmps67
  go_wp2
  go_loopg [8, 6, 7] c.length (fun g v vo vl wx => w = wx ∧ ∃ (i o : Nat) (l : Int), i + g = c.length ∧ o ≤ i ∧ v = .int .i64 i ∧ vo = .int .i64 o ∧ vl = .int .i64 l ∧ ∃ x ∈ c.drop i, valM vals x = 1)
  case atStart => exact ⟨rfl, 0, 0, -1, by omega, by omega, rfl, rfl, rfl, Ht.out⟩
  case round =>
    obtain ⟨rfl, i, o, l, hig, hoi, rfl, rfl, rfl, hinv⟩ := hrel
    have HI := zzh hinv
    cases gk with
    | zero =>
      obtain ⟨x, hx, _⟩ := hinv
      rw [List.drop_eq_nil_of_le (by omega)] at hx
      cases hx
    | succ g =>
      have hin : i < c.length := by omega
      have d1 : decide ((i : Int) < c.length) = true := by simp; omega
      obtain ⟨b, off, hA, hb, hcell⟩ := Hc.out.at_.resolve_left (by omega)
      subst hA
      have c0 := hcell i hin
      have hdr : c.drop i = c[i] :: c.drop (i + 1) := List.drop_eq_getElem_cons hin
      have hx := Hm.out c[i] (List.getElem_mem hin)
      have Hdr := zzh hdr
      have t1 : (0 : Int) ≤ (i : Int) := by omega
      have t2 : (i : Int) < (c.length : Int) := by omega
      clear hcell hdr hinv
      generalize c[i] = x at *
      generalize hv : valM vals x = v
      have HV := zzh hv
      have HNext : Hid (v ≠ 1 → ∃ x ∈ c.drop (i + 1), valM vals x = 1) := zzh (fun hn => by
        obtain ⟨y, hy, hy1⟩ := HI.out
        rw [Hdr.out] at hy
        rcases List.mem_cons.1 hy with rfl | hy
        · exact absurd (hv.symm.trans hy1) hn
        · exact ⟨y, hy, hy1⟩)
      clear hv
      by_cases h1 : v = 1
      · subst h1
        go_wp2_with (go_at_call 109; refine (val15_ok cap2 Hv.out x hx).mono ?_; rintro e w1 ⟨rfl, rfl⟩; rw [HV.out])
        go_ret2
        exact ⟨rfl, rfl⟩
      have b1 : (v == 1) = false := beq_eq_false_iff_ne.2 h1
      have HN := zzh (HNext.out h1)
      by_cases h2 : v = 0
      · subst h2
        go_wp2_with (go_at_call 109; refine (val15_ok cap2 Hv.out x hx).mono ?_; rintro e w1 ⟨rfl, rfl⟩; rw [HV.out])
        go_roundg g
        case measure => omega
        case rel => exact ⟨rfl, i + 1, o + 1, x, by omega, by omega, by go_num, by go_num, rfl, HN.out⟩
      have b2 : (v == 0) = false := beq_eq_false_iff_ne.2 h2
      go_wp2_with (go_at_call 109; refine (val15_ok cap2 Hv.out x hx).mono ?_; rintro e w1 ⟨rfl, rfl⟩; rw [HV.out])
      go_roundg g
      case measure => omega
      case rel => exact ⟨rfl, i + 1, o, l, by omega, by omega, by go_num, rfl, rfl, HN.out⟩
set_option maxHeartbeats 1000000 in
theorem holds15t_ok {w : World} {B : Option Addr} {v : Value} {N : Nat → Prop} {rows : List (Option Addr × Nat × List Int)} {vals : List Int} (cap2 : Nat) (h : GridV N w v rows) (hv : Row8 w B vals) (hm : ∀ r ∈ rows, ∀ x ∈ r.2.2, x ≤ 9223372036854775807) (ht : ∀ r ∈ rows, ∃ x ∈ r.2.2, valM vals x = 1) :
    Calls Tryz.prog 33 #[v, .slice B vals.length cap2] w fun e w' => e = .returned (.bool true) ∧ w = w' := by
  have hlen := h.len
  obtain ⟨A, cap, rfl, _, _, hat⟩ := h.form
  have HAt := zzh hat
  have HR := zzh h.rows
  have Hm := zzh hm
  have Hv := zzh hv
  have Ht := zzh ht
  clear h hm hv ht hat
  go_enter Tryz.func33, Tryz.ntmps33
  go_wp2
  go_loopg [5] rows.length (fun g v wx => w = wx ∧ ∃ i : Nat, i + g = rows.length ∧ v = .int .i64 i)
  case atStart => exact ⟨rfl, 0, by omega, rfl⟩
  case round =>
    obtain ⟨rfl, i, hig, rfl⟩ := hrel
    cases gk with
    | zero =>
      have d1 : decide ((i : Int) < rows.length) = false := by simp; omega
      go_wp2
      go_ret
      exact ⟨rfl, rfl⟩
    | succ k =>
      have hin : i < rows.length := by omega
      have d1 : decide ((i : Int) < rows.length) = true := by simp; omega
      obtain ⟨b, off, hA, _, hb, hcell⟩ := HAt.out.resolve_left (by omega)
      subst hA
      have c0 := hcell i hin
      have hmem : rows[i] ∈ rows := List.getElem_mem hin
      obtain ⟨hrow, _, _⟩ := HR.out rows[i] hmem
      have hx := Hm.out rows[i] hmem
      have hy := Ht.out rows[i] hmem
      have t1 : (0 : Int) ≤ (i : Int) := by omega
      have t2 : (i : Int) < (rows.length : Int) := by omega
      unfold encR at c0
      clear hcell hmem
      generalize rows[i].1 = xa at *
      generalize rows[i].2.1 = xc at *
      generalize rows[i].2.2 = c at *
      have K := state15t_ok xc cap2 hrow.row Hv.out hx hy
      clear hx hrow hy
      go_wp2_with (go_at_call 67; (with_reducible refine K.mono ?_); rintro e w1 ⟨rfl, rfl⟩)
      go_roundg k
      case measure => omega
      case rel => exact ⟨rfl, i + 1, by omega, by go_num⟩
def i8Cells (n : Nat) (F : Nat → Int) : Array Value := ((List.range n).map fun i => Value.int .i8 (F i)).toArray
def updI (F : Nat → Int) (k : Nat) (b : Int) (i : Nat) : Int := if i = k then b else F i
theorem i8Cells_get {n : Nat} {F : Nat → Int} {i : Nat} (h : i < n) : (i8Cells n F)[i]? = some (.int .i8 (F i)) := by
  unfold i8Cells
  rw [zzg, List.getElem?_map, List.getElem?_range h]
  rfl
theorem i8Cells_set {n : Nat} {F : Nat → Int} {k : Nat} (b : Int) : (i8Cells n F).setIfInBounds k (.int .i8 b) = i8Cells n (updI F k b) := by
  apply Array.ext'
  unfold i8Cells
  rw [Array.toList_setIfInBounds]
  apply List.ext_getElem?
  intro i
  rw [List.getElem?_set]
  simp only [List.getElem?_map, List.length_map, List.length_range]
  by_cases hi : i < n
  · rw [List.getElem?_range hi]
    by_cases hk : k = i
    · subst hk
      simp [updI, hi]
    · rw [if_neg hk]
      simp [updI, show ¬ i = k from fun e => hk e.symm]
  · rw [List.getElem?_eq_none (by simpa using hi)]
    by_cases hk : k = i
    · subst hk
      simp [hi]
    · rw [if_neg hk]
      rfl
theorem i8Cells_made (n : Nat) : madeCells #[Value.int .i8 0] n = i8Cells n (fun _ => 0) := by
  rw [made_one]
  unfold i8Cells
  congr 1
  apply List.ext_getElem?
  intro i
  rw [List.getElem?_map]
  by_cases hi : i < n
  · rw [List.getElem?_range hi, List.getElem?_replicate, if_pos hi]
    rfl
  · rw [List.getElem?_eq_none (by simpa using hi), List.getElem?_eq_none (by simpa using hi)]
    rfl
theorem int8_info : (Tryz.prog.info? 44).map (fun i => (i.zero, i.size, i.bytes)) = some (some (.int .i8 0), 1, 1) := by kernel_rfl
theorem i8_row {w : World} {b n : Nat} {F : Nat → Int} (h : Blk w b 44 (i8Cells n F)) (hn : n ≤ 100000) : Row8 w (some ⟨b, 0, none⟩) ((List.range n).map F) := by
  refine ⟨by simpa using hn, .inr ⟨b, 0, rfl, h.lt, fun i hi => ?_⟩⟩
  have hi' : i < n := by simpa using hi
  rw [Nat.zero_add, h.cell, i8Cells_get hi']
  simp
theorem valM_on {n : Nat} {a : Int → Int} {x : Int} (h0 : 0 ≤ x) (h1 : x / 2 < n) (h : litOn a x) : valM ((List.range n).map fun i : Nat => a (i : Int)) x = 1 := by
  unfold litOn at h
  unfold valM
  rw [if_neg (by omega), List.getElem?_map, List.getElem?_range (by omega)]
  have e0 : a (((x / 2).toNat : Nat) : Int) = 1 + x % 2 := by rw [show (((x / 2).toNat : Nat) : Int) = x / 2 by omega]; exact h
  show (if a (((x / 2).toNat : Nat) : Int) = 1 then _ else if a (((x / 2).toNat : Nat) : Int) = 2 then _ else _) = (1 : Int)
  rw [e0]
  rcases (show x % 2 = 0 ∨ x % 2 = 1 by omega) with e | e
  · rw [e]
    rfl
  · rw [e]
    rfl
theorem litT_range {T : List Nd} {n : Nd} (h : n ∈ T) : 0 ≤ litT T n ∧ litT T n / 2 < T.length ∧ 0 ≤ litT T n + 1 ∧ (litT T n + 1) / 2 < T.length := by
  have := List.idxOf_lt_length_iff.2 h
  unfold litT
  omega
theorem of2_range {T : List Nd} {x y : Int} {l : List (List Int)} (h : of2 T x y = some l) : ∀ c ∈ l, ∀ z ∈ c, 0 ≤ z ∧ z / 2 < T.length := by
  unfold of2 at h
  split at h
  rotate_left
  · cases h
  rename_i h1
  split at h
  rotate_left
  · cases h
  have r1 := litT_range h1
  split at h
  · injection h with h
    subst h
    intro c hc z hz
    obtain rfl := List.mem_singleton.1 hc
    obtain rfl := List.mem_singleton.1 hz
    omega
  · split at h
    rotate_left
    · cases h
    rename_i h2
    have r2 := litT_range h2.1
    have r3 := litT_range h2.2
    injection h with h
    subst h
    intro c hc z hz
    simp only [List.mem_cons, List.not_mem_nil, or_false] at hc
    rcases hc with rfl | rfl | rfl <;>
    · obtain ⟨hz, _⟩ := (mem_make _ _).1 hz
      simp only [List.mem_cons, List.not_mem_nil, or_false] at hz
      omega
theorem all_range {T : List Nd} : ∀ c ∈ allT T, ∀ z ∈ c, 0 ≤ z ∧ z / 2 < T.length := by
  intro c hc z hz
  unfold allT at hc
  obtain ⟨p, _, hc⟩ := List.mem_flatMap.1 hc
  cases h : of2 T p.1 p.2 with
  | none => rw [h] at hc; cases hc
  | some l =>
    rw [h] at hc
    exact of2_range h c hc z hz
theorem all_vals {T : List Nd} {a : Int → Int} (h : ∀ c ∈ allT T, ∃ x ∈ c, litOn a x) : ∀ c ∈ allT T, ∃ x ∈ c, valM ((List.range T.length).map fun i : Nat => a (i : Int)) x = 1 := fun c hc => by
  obtain ⟨x, hx, hl⟩ := h c hc
  obtain ⟨h0, h1⟩ := all_range c hc x hx
  exact ⟨x, hx, valM_on h0 h1 hl⟩
section
variable {w W W2 : World} {pO ab : Nat} {A2 : Option Addr} {U : List Nd} {c2 : Nat} {L : List Int} {i : Nat} {F : Nat → Int}
end
end Go.Proofs.YtlipnnibagidiaaGreat

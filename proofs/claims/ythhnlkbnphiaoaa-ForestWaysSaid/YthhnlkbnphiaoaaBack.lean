/- Back. -/
import Derived.Test.YthhnlkbnphiaoaaBackA
import Derived.Test.YthhnlkbnphiaoaaStillIn
namespace Go.Proofs.Ythhnlkbnphiaoaa
open Go.RowKit
open Go.Maps (Keyed)
attribute [local go_sem] Oper.semAt_some

theorem Tree.last_ne {J : List Jn} {j : Jn} (h : Tree (J ++ [j])) : j.a ≠ j.b := by
  generalize hK : J ++ [j] = K at h
  cases h with
  | nil => simp at hK
  | snoc _ hn =>
    obtain ⟨rfl, he⟩ := List.append_inj' hK rfl
    injection he with he
    subst he
    exact fun e => hn (e ▸ .refl _)
/-- The rows while a join is taken back: of a, then of b. -/
def midL (T : List Jn) (j : Jn) : Nat → Int → List (Int × Int)
  | 0 => nearOf (T ++ [j])
  | 1 => upd (nearOf (T ++ [j])) j.a (nearOf T j.a)
  | _ => nearOf T
theorem midL_a {T : List Jn} {j : Jn} (h : j.a ≠ j.b) : midL T j 0 j.a = nearOf T j.a ++ [(j.b, j.r)] := by
  show nearOf (T ++ [j]) j.a = _
  rw [nearOf_snoc]
  unfold seenBy
  rw [if_pos rfl, if_neg (fun e => h e.symm), List.append_nil]
theorem midL_b {T : List Jn} {j : Jn} (h : j.a ≠ j.b) : midL T j 1 j.b = nearOf T j.b ++ [(j.a, j.r)] := by
  show upd (nearOf (T ++ [j])) j.a (nearOf T j.a) j.b = _
  rw [upd_far _ _ (fun e => h e.symm), nearOf_snoc]
  unfold seenBy
  rw [if_pos rfl, if_neg h, List.nil_append]
theorem midL_2 (T : List Jn) (j : Jn) : upd (midL T j 1) j.b (nearOf T j.b) = midL T j 2 := by
  funext x
  show upd (upd (nearOf (T ++ [j])) j.a (nearOf T j.a)) j.b (nearOf T j.b) x = nearOf T x
  by_cases hb : x = j.b
  · rw [hb, upd_at]
  · rw [upd_far _ _ hb]
    by_cases ha : x = j.a
    · rw [ha, upd_at]
    · rw [upd_far _ _ ha, nearOf_snoc]
      unfold seenBy
      rw [if_neg (fun e => ha e.symm), if_neg (fun e => hb e.symm), List.append_nil, List.append_nil]
/-- The last of a's row is struck. -/
theorem Near.clipped {w : World} {B bn m : Nat} {N : Int → Value} {L : Int → List (Int × Int)} (h : Near w B bn m N L) (a : Int) (ha : 0 ≤ a ∧ a ≤ 4096) (hm : m ≤ 2000000) {K : List (Int × Int)} {e : Int × Int} (hL : L a = K ++ [e]) :
    ∃ g cap, N a = .slice (some ⟨g, 0, none⟩) (K.length + 1) cap ∧ K.length + 1 ≤ cap ∧ ∃ w2, (Instr.mapUpdate 46 (.map (some bn)) (.int .i64 a) (.slice (some ⟨g, 0, none⟩) K.length K.length)).run Try.prog w.drew = .ok () w2 ∧
      Near w2 B bn (m + 1) (upd N a (.slice (some ⟨g, 0, none⟩) K.length K.length)) (upd L a K) ∧ Kept (fun b => b = bn) w w2 := by
  have hr := h.rows a
  rw [hL, List.length_append, List.length_singleton] at hr
  obtain ⟨g, cap, hv, _, _, hc⟩ := clip_form hr (by omega)
  refine ⟨g, cap, hv, hc, ?_⟩
  rw [hv] at hr
  have hc2 := clip_take hr (Nat.le_succ K.length) (Nat.le_refl _) (by omega : K.length ≤ cap)
  have hK : ((K ++ [e]).flatMap edgeCells).take (K.length * 2) = K.flatMap edgeCells := by
    rw [List.flatMap_append, List.take_append_of_le_length (by rw [flat_len edgeCells 2 edgeCells_len]; omega), List.take_of_length_le (by rw [flat_len edgeCells 2 edgeCells_len]; omega)]
  rw [hK] at hc2
  obtain ⟨w2, hrun, hN, hg⟩ := h.put a ha hm (w' := w.drew) ((Kept.refl (fun _ => False) w).drew) id (fun _ _ _ _ => id) (v := .slice (some ⟨g, 0, none⟩) K.length K.length) (K := K) (clip_kept hc2 ((Kept.refl (fun _ => False) w).drew) (fun _ _ => id)) (fun x q hx hq e => h.apart x a q hx hq (by rw [hv]; exact e))
  exact ⟨w2, hrun, hN, (((Kept.refl _ w).drew)).grown hg (fun k hk => .inl (by injection hk with hk; exact hk.symm))⟩
theorem wrap_nat (u : Nat) (h : u ≤ 4000000) : wrap64 (u : Int) = u := by
  unfold wrap64
  omega
theorem pair_at0 (a b : Int) (W : World) : (Instr.index 66 (.agg #[.int .i64 a, .int .i64 b]) (.int .i64 0)).run Try.prog W = .ok (.int .i64 a) W := by kernel_rfl
theorem pair_at1 (a b : Int) (W : World) : (Instr.index 66 (.agg #[.int .i64 a, .int .i64 b]) (.int .i64 1)).run Try.prog W = .ok (.int .i64 b) W := by kernel_rfl
theorem flat_takeJ : ∀ (L : List Jn) (k : Nat), (L.flatMap joinCells).take (k * 3) = (L.take k).flatMap joinCells
  | [], k => by simp
  | a :: L, 0 => by simp
  | a :: L, k + 1 => by
    rw [List.flatMap_cons, List.take_succ_cons, List.flatMap_cons, List.take_append, joinCells_len, Nat.add_mul, Nat.one_mul, Nat.add_sub_cancel, List.take_of_length_le (by rw [joinCells_len]; omega), flat_takeJ L k]
/-- What Back's loop holds behind i rounds. -/
structure BackX (w0 : World) (c2 l D : Nat) (r : Loop) (B bf bn bp : Nat) (lj : Value) (n : Int) (J : List Jn) (m i : Nat) (W : World) : Prop where
  loop : LoopAt W l D r
  blk : Blk W bf 49 #[.int .i64 n, lj, .map (some bn), .map (some bp)]
  x2 : Blk W c2 24 #[.pointer (some ⟨bf, 0, none⟩)]
  near : ∃ N', Near W B bn (m + 2 * i) N' (nearOf (J.take (J.length - i)))
  kept : Kept (fun b => b = bn) w0 W

section
variable {w w' : World} {B bf bn bp m : Nat} {lj : Value} {N : Int → Value} {n : Int} {J : List Jn}
theorem back_arg (h : FR w B bf bn bp lj N n J m) (k : Int) (hk : k < 0 ∨ (J.length : Int) < k) :
    Calls Try.prog 13 #[.pointer (some ⟨bf, 0, none⟩), .int .i64 k] w fun e w' => e = .returned (.int .i64 2) ∧ Below w.heap.size w w' := by
  have c1 := h.blk.cell 1
  obtain ⟨A, cap, rfl⟩ := clip_slice h.own
  simp only [List.getElem?_toArray, List.getElem?_cons_zero, List.getElem?_cons_succ] at c1
  have hbf := h.lt
  clear h
  generalize J.length = q at *
  by_cases h1 : k < 0
  · have d1 : decide (k < 0) = true := decide_eq_true h1
    clear hk
    go_enter Try.func13, Try.ntmps13
    go_wp2
    exact bodyPost_ret (v := .int .i64 2) (by simp [results, Try.results13, go_sem]) rfl ⟨rfl, (Below.refl _ w).alloc (Nat.le_refl _) _⟩
  · have d1 : decide (k < 0) = false := decide_eq_false h1
    have d2 : decide ((q : Int) < k) = true := by simp; omega
    clear hk h1
    go_enter Try.func13, Try.ntmps13
    go_wp2
    exact bodyPost_ret (v := .int .i64 2) (by simp [results, Try.results13, go_sem]) rfl ⟨rfl, (Below.refl _ w).alloc (Nat.le_refl _) _⟩

theorem FR.bw {A A2 : Option Addr} {q cap k : Nat} (h : FR w B bf bn bp (.slice A q cap) N n J m) (hq : J.length = q) (hA : (if cap = k then A else Option.map (fun x => x.add (k * 3)) A) = A2) :
    ∃ G off, G < w.heap.size ∧ G ≠ bn ∧ ∀ w' c1, Kept (fun _ => False) w w' → Blk w' c1 45 #[.slice A2 (q - k) (cap - k)] → Bw w' c1 G off (cap - k) A2 (J.drop k) := by
  have hne := h.apart_pairs
  obtain ⟨fn, hfn, _⟩ := h.near
  rcases h.own.2 with ⟨e, h0⟩ | ⟨g, cap', cur, e, _, hb, hc, _, hs, ht⟩
  · refine ⟨bf, 0, h.lt, fun e => map_blk_ne hfn h.blk e.symm, fun w' c1 hk hb => ⟨by rw [List.length_drop, hq]; exact hb, fun hn => absurd (List.drop_eq_nil_of_le (by omega)) hn⟩⟩
  · injection e with e1 e2 e3
    subst e1 e2 e3
    refine ⟨g, k * 3, hb.lt, fun e => map_clip_ne hfn h.own (e ▸ rfl), fun w' c1 hk hb' => ⟨by rw [List.length_drop]; exact hb', fun hn => ?_⟩⟩
    have hlt : k < J.length := by
      rcases Nat.lt_or_ge k J.length with hlt | hge
      · exact hlt
      · exact absurd (List.drop_eq_nil_of_le hge) hn
    refine ⟨?_, cur, hb.kept hk id, fun i j hi hj => ?_⟩
    · rw [← hA, if_neg (by omega)]
      simp only [Option.map_some, addr_add]
    · rw [List.length_drop] at hi
      have hlt2 : k * 3 + (i * 3 + j) < J.length * 3 := by omega
      have := flat_get joinCells 3 joinCells_len J (k + i) j (by omega) hj
      rw [List.getElem_drop, ← this, ← ht, List.getElem?_take, if_pos (by omega), Array.getElem?_toList]
      congr 1
      omega

theorem clip_cut {base : Nat} {e : TypeId} {size q cap k : Nat} {A : Option Addr} {xs : List Value} (h : clipRow w base e size (.slice A q cap) q xs) (hk : k ≤ q) : clipRow w base e size (.slice A k k) k (xs.take (k * size)) := by
  have h0 := h
  rcases h.2 with ⟨e, hq⟩ | ⟨g, cap', cur, e, _, _, hc, _⟩
  · injection e with e1 e2 e3
    obtain rfl : k = 0 := by omega
    subst e1
    rw [Nat.zero_mul, List.take_zero]
    exact clip_nil _ _ _ _
  · injection e with e1 e2 e3
    subst e1
    exact clip_take h0 hk (Nat.le_refl _) (by omega)
theorem back_fr {W7 w8 w9 : World} {A : Option Addr} {q cap k m' L : Nat} {N7 : Int → Value} (h : FR w B bf bn bp (.slice A q cap) N n J m) (hk : k ≤ J.length) (K7 : Kept (fun b => b = bn) w W7) (k8 : Kept (fun b => b = bf ∨ b = bp) W7 w8)
    (b8 : Blk w8 bf 49 #[.int .i64 n, .slice A k k, .map (some bn), .map (some bp)]) (b7 : Blk W7 bf 49 #[.int .i64 n, .slice A q cap, .map (some bn), .map (some bp)]) (hN : Near W7 B bn m' N7 (nearOf (J.take k)))
    (hq : MapAt Try.prog 66 w8 bp 0 (fun _ => none)) (hd : W7.heap[L]? = some (.deferred (some []))) (k9 : Kept (fun b => b = L) w8 w9) (hm : w.heap.size ≤ L ∧ m' ≤ m + 2 * q) : FR w9 B bf bn bp (.slice A k k) N7 n (J.take k) (m + 2 * q) := by
  obtain ⟨l1, l2, l3, l4, l5⟩ := h.lts
  obtain ⟨p1, p2, p3, p4⟩ := h.apart_pairs
  obtain ⟨qf, hqf, _⟩ := h.pairs
  obtain ⟨fn, hfn, _⟩ := h.near
  have hfn7 := hN.map_
  obtain ⟨fn7, hfn7, _⟩ := hfn7
  have hqf7 := hqf.kept K7 p2.symm
  have nbf : bn ≠ bf := fun e => map_blk_ne hfn h.blk e
  have hT : Kept (fun b => b = bn ∨ b = bf ∨ b = bp) w w9 := ((K7.mono (fun _ _ h => .inl h)).trans (k8.mono (fun _ _ h => .inr h))).then_ k9 (fun i hi e => absurd e (by omega))
  have hown := clip_kept h.own hT (by
    rintro g hg (e | e | e)
    · exact map_clip_ne hfn h.own (e ▸ hg)
    · exact clip_blk_ne h.own h.blk (by decide) (e ▸ hg)
    · exact p3 g hg e)
  have hJ : J.length = q := by
    obtain ⟨A', c', e⟩ := clip_slice h.own
    injection e with _ e
    exact e.symm
  rw [hJ] at hown
  have hcut := clip_cut hown (by omega : k ≤ q)
  rw [show (J.flatMap joinCells).take (k * 3) = (J.take k).flatMap joinCells from flat_takeJ J k] at hcut
  have hN8 := hN.keep k8 (fun e => e.elim (fun e => nbf e) (fun e => p2 e)) (by
    rintro x g hg (e | e)
    · exact clip_blk_ne (hN.rows x) b7 (by decide) (e ▸ hg)
    · exact map_clip_ne hqf7 (hN.rows x) (e ▸ hg))
  have hN9 := hN8.keep k9 (by omega) (fun x g hg e => clip_obj_ne (hN.rows x) hd (fun _ _ _ h => by cases h) (e ▸ hg))
  obtain ⟨f9, hf9, hf92⟩ := hN9.map_
  have hlt : (J.take k).length = k := by rw [List.length_take]; omega
  exact { blk := b8.kept k9 (by omega), own := by rw [hlt]; exact hcut, near := ⟨f9, hf9.mono hm.2, hf92⟩, rows := hN9.rows, apart := hN9.apart, pairs := ⟨_, (hq.kept k9 (by omega)).mono (Nat.zero_le _), fun _ _ => .inl rfl⟩,
          hbf := h.hbf, hbn := h.hbn, hbp := h.hbp, ne := h.ne, fine := h.fine.take k, h0 := h.h0, hn := h.hn, len := by have := h.len; omega }

set_option maxRecDepth 100000 in
set_option maxHeartbeats 2000000 in
theorem back_in (h : FR w B bf bn bp lj N n J m) (hm : m ≤ 500000) (k : Nat) (hk : k ≤ J.length) :
    Calls Try.prog 13 #[.pointer (some ⟨bf, 0, none⟩), .int .i64 k] w fun e w' => ∃ lj' N', e = .returned (.int .i64 0) ∧ FR w' B bf bn bp lj' N' n (J.take k) (m + 2 * J.length) ∧ Kf B w w' := by
  have hlen := h.len
  obtain ⟨A, cap, hlj⟩ := clip_slice h.own
  subst hlj
  have hcap : J.length ≤ cap := by
    rcases h.own.2 with ⟨e, h0⟩ | ⟨g, cap', cur, e, _, _, hc, _⟩
    · omega
    · injection e with _ _ e
      omega
  have c1 := h.blk.cell 1
  simp only [List.getElem?_toArray, List.getElem?_cons_zero, List.getElem?_cons_succ] at c1
  have hbf := h.lt
  have d1 : decide ((k : Int) < 0) = false := decide_eq_false (by omega)
  have d2 : decide (J.length < k) = false := decide_eq_false (by omega)
  have H0 := Lib.hid h
  clear h
  generalize hq : J.length = q at *
  have Hq := Lib.hid hq
  clear hq
  obtain ⟨A2, hA⟩ : ∃ A2, (if cap = k then A else Option.map (fun x => x.add (k * 3)) A) = A2 := ⟨_, rfl⟩
  refine callsIn_wide.1 (callsIn_of_wp_marks (n := 2) Try.func13 rfl trivial (wpIn_wide.2 ?_) rfl)
  simp only [Try.ntmps13, List.size_toArray, List.length_cons, List.length_nil, Nat.reduceAdd, Nat.reduceSub, Array.replicate_succ, Array.replicate_zero, List.push_toArray, List.append_toArray, List.nil_append, List.cons_append]
  go_wp2_with (go_at_call 20; refine (backward_ok _ _ _ _).mono ?_; rintro e w1 ⟨rfl, rfl⟩)
  obtain ⟨G, off, hG, hGn, hbw⟩ := H0.out.bw Hq.out hA
  obtain ⟨W3, hW3⟩ : ∃ W3, (w.alloc (.cells #[.pointer (some ⟨bf, 0, none⟩)] 24)).alloc (.cells #[.slice A2 (q - k) (cap - k)] 45) = W3 := ⟨_, rfl⟩
  have hs3 : W3.heap.size = w.heap.size + 2 := by rw [← hW3]; simp
  have hbW : Below w.heap.size w W3 := by rw [← hW3]; exact ((Below.refl _ w).alloc (Nat.le_refl _) _).alloc (by simp) _
  have x2 : Blk W3 w.heap.size 24 #[.pointer (some ⟨bf, 0, none⟩)] := by rw [← hW3]; exact (Blk.new w _ _).alloc _
  have x1 : Blk W3 (w.heap.size + 1) 45 #[.slice A2 (q - k) (cap - k)] := by rw [← hW3]; exact Blk.new_at (by simp) _ _
  rw [hW3]
  clear hW3 c1
  refine wpIn_wide.1 (rangeFunc_wide (n := 2) (gf := 23) rfl (fun _ _ => by simp [invoke, go_sem]) fun fn r hr => ?_)
  have e1 := congrArg Loop.tmps hr
  have e2 := congrArg Loop.params hr
  have e3 := congrArg Loop.assign hr
  have e4 := congrArg Loop.body hr
  have e5 := congrArg Loop.state hr
  have e6 := congrArg Loop.pending hr
  simp only [loopRec] at e1 e2 e3 e4 e5 e6
  clear hr
  have hloop := LoopAt.new W3 r
  have hbL : Below W3.heap.size W3 ((W3.alloc (.deferred (some []))).alloc (.loop r)) := ((Below.refl _ W3).alloc (Nat.le_refl _) _).alloc (by simp) _
  have hszL : ((W3.alloc (.deferred (some []))).alloc (.loop r)).heap.size = W3.heap.size + 2 := by simp
  generalize (W3.alloc (.deferred (some []))).alloc (.loop r) = WL at *
  have hbT : Below w.heap.size w WL := hbW.trans (hbL.mono (by omega))
  have hfL := H0.out.below hbT
  have x1' := x1.below hbL x1.lt
  have x2' := x2.below hbL x2.lt
  have hbwL := hbw WL (w.heap.size + 1) (Kept.of_below hbT) x1'
  have hL : w.heap.size + 2 ≤ W3.heap.size := by omega
  have hbn := H0.out.lts.2.1
  have hdl : (J.drop k).length = q - k := by rw [List.length_drop, Hq.out]
  generalize W3.heap.size = L at *
  clear hs3 hbw
  refine callsIn_wide.2 ((backward_iter (L + 1) (L := J.drop k) (by omega) (BackX w w.heap.size (L + 1) L r B bf bn bp (.slice A q cap) n J m) WL hbwL ?_ ?_).mono ?_)
  · exact ⟨hloop, hfL.blk, x2', ⟨N, by rw [Nat.sub_zero, List.take_length]; exact hfL.nears⟩, (Kept.of_below hbT)⟩
  · intro i W1 hi hx1 hb1
    refine ⟨_, _, _, _, run_yield hx1.loop.rec_ (by rw [e2]; rfl), ?_⟩
    rw [e1, e2, e3, e4]
    clear e1 e2 e3 e4
    refine roundIn_of_wpIn trivial ?_
    simp only [List.zip_toArray, List.zip_cons_cons, List.zip_nil_right, List.foldl_toArray', List.foldl_cons, List.foldl_nil, List.setIfInBounds_toArray, List.set_cons_succ, List.set_cons_zero]
    rw [hdl] at hi
    have hmJ : q - i - 1 < J.length := by rw [Hq.out]; omega
    have hjd : (J.drop k)[(J.drop k).length - 1 - i]'(by omega) = J[q - i - 1] := by
      rw [List.getElem_drop]
      congr 1
      omega
    rw [hjd, hdl]
    have htake : J.take (J.length - i) = J.take (q - i - 1) ++ [J[q - i - 1]] := by
      rw [show J.length - i = (q - i - 1) + 1 by rw [Hq.out]; omega, List.take_succ_eq_append_getElem hmJ]
    have hnodes := H0.out.fine.nodes J[q - i - 1] (List.getElem_mem _)
    have hab : J[q - i - 1].a ≠ J[q - i - 1].b := by
      have := (H0.out.fine.take (J.length - i)).tree
      rw [htake] at this
      exact Tree.last_ne this
    have hn4 := H0.out.hn
    generalize J[q - i - 1] = j at *
    unfold joinVal
    have hGL : G < L := by omega
    have hbfL := H0.out.lts.1
    have hW1 := hx1.kept.size
    gi_wp2
    have hs1 := hx1.loop.lt
    have ha1 := Kept.alloc (Kept.refl (fun _ => False) W1) (.cells #[.int .i64 j.a, .int .i64 j.b, .int .i64 j.r] 59)
    have hb0 := Blk.new W1 59 #[.int .i64 j.a, .int .i64 j.b, .int .i64 j.r]
    have hsz1 : W1.heap.size < (W1.alloc (.cells #[.int .i64 j.a, .int .i64 j.b, .int .i64 j.r] 59)).heap.size := by simp
    generalize W1.alloc (.cells #[.int .i64 j.a, .int .i64 j.b, .int .i64 j.r] 59) = W2 at *
    have hl2 := hx1.loop.kept ha1 id id
    have hk2 := (ha1.mono (S' := fun b => b = L + 1) fun _ _ h => h.elim).then_ (Kept.putObj W2 (L + 1) (.loop (busyRec r))) (fun _ _ h => h)
    have hl3 := hl2.put (busyRec r)
    have hbr := hl2.begin_ (P := Try.prog) e5
    have hb3 := hb0.kept (Kept.putObj W2 (L + 1) (.loop (busyRec r))) (by omega)
    generalize W2.putObj (L + 1) (.loop (busyRec r)) = W4 at *
    obtain ⟨N1, hN1⟩ := hx1.near
    rw [htake] at hN1
    obtain ⟨fq, hfq, _⟩ := hN1.map_
    have hN4 := hN1.keep hk2 (by omega) (fun x g hg e => clip_obj_ne (hN1.rows x) hx1.loop.rec_ (fun _ _ _ h => by cases h) (e ▸ hg))
    have b4 := hx1.blk.kept hk2 (by omega)
    have z2 := hx1.x2.kept hk2 (by omega)
    have hbw4 := hb1.keep hk2 (by omega) (by omega)
    have n1 : bf ≠ bn := fun e => map_blk_ne hfq hx1.blk e.symm
    have cb0 := hb3.cell 0
    have cb1 := hb3.cell 1
    simp only [List.getElem?_toArray, List.getElem?_cons_zero, List.getElem?_cons_succ] at cb0 cb1
    have hTl : (J.take (q - i - 1)).length ≤ q := by rw [List.length_take]; omega
    generalize hT : J.take (q - i - 1) = T at *
    have HX := Lib.hid hx1
    have HN4 := Lib.hid hN4
    have HK4 := Lib.hid hk2
    have L4 := Lib.hid hl3
    have B4 := Lib.hid b4
    have Z2 := Lib.hid z2
    have HBW := Lib.hid hbw4
    have HT := Lib.hid hT
    have HTK := Lib.hid htake
    have hi2 : 2 * i ≤ 2 * q := by omega
    have hqm : q ≤ m := by omega
    clear hx1 hb1 hN1 hN4 hk2 hl2 hl3 b4 z2 hbw4 hT htake hb0 ha1 hfq hjd
    obtain ⟨j0, je, jz0, jz1, jz2⟩ := info_parts edge_info
    refine ⟨W4, hbr, ?_⟩
    clear hbr
    gi_wp2
    gi_loopw [39] (fun t wr => ∃ c : Nat, t = .int .i64 c ∧ c ≤ 2 ∧ (∃ N', Near wr B bn (m + 2 * i + c) N' (midL T j c)) ∧ Kept (fun b => b = bn) W4 wr) (fun t _ => (2 - intOf t).toNat)
    case atStart => exact ⟨0, rfl, by omega, ⟨N1, HN4.out⟩, Kept.refl _ _⟩
    case round =>
      obtain ⟨c, rfl, hc2, ⟨N2, hN2⟩, hkr⟩ := hrel
      have hwr := hkr.size
      have hW4 := L4.out.lt
      have zr := (Z2.out.kept hkr (by omega)).cell 0
      have br := (B4.out.kept hkr n1).cell 2
      simp only [List.getElem?_toArray, List.getElem?_cons_zero, List.getElem?_cons_succ] at zr br
      obtain rfl | rfl | rfl : c = 0 ∨ c = 1 ∨ c = 2 := by omega
      · obtain ⟨g, cp, hv, hcp, w2, hrun, hN3, hk3⟩ := hN2.clipped j.a (by omega) (by omega) (midL_a hab)
        have hl0 := hN2.look j.a (by omega)
        have hl1 := (hN2.keep ((Kept.refl (fun _ => False) wr).drew) id (fun _ _ _ => id)).look j.a (by omega)
        rw [hv] at hl0 hl1
        have HN3 := Lib.hid hN3
        have HK3 := Lib.hid (hkr.trans hk3)
        clear hN3 hN2 hv hk3 hkr
        have hul : (nearOf T j.a).length ≤ 1000000 := Nat.le_trans (near_len T j.a) (by omega)
        generalize hKl : (nearOf T j.a).length = u at *
        clear hKl
        have hu1 : u ≤ cp := by omega
        have hw64 : wrap64 (u : Int) = u := wrap_nat u (by omega)
        clear hul
        have hix := pair_at0 j.a j.b wr
        gi_wp2
        refine wpIn_region_still_tail (fun _ => trivial) 14 (by kernel_rfl) (by kernel_rfl) (by kernel_rfl) ?_
        simp only [List.take_succ_cons, List.take_zero, List.drop_succ_cons, List.drop_zero]
        change wpStill Try.prog _ wr.drew (fun a' => wpListIn _ _ _ _ _ _ a' wr.drew) _ _
        iterate 13 still_step
        refine still_slice rfl rfl (run_slice3 Try.underlying60 je g (u + 1) cp u hu1 _) ?_
        refine wpStill_nil ?_
        gi_wp2
        go_roundw
        case rel =>
          exact ⟨1, rfl, by omega, ⟨_, HN3.out⟩, HK3.out⟩
        case measure => simp [intOf]
      · obtain ⟨g, cp, hv, hcp, w2, hrun, hN3, hk3⟩ := hN2.clipped j.b (by omega) (by omega) (midL_b hab)
        have hl0 := hN2.look j.b (by omega)
        have hl1 := (hN2.keep ((Kept.refl (fun _ => False) wr).drew) id (fun _ _ _ => id)).look j.b (by omega)
        rw [hv] at hl0 hl1
        have HN3 := Lib.hid hN3
        have HK3 := Lib.hid (hkr.trans hk3)
        clear hN3 hN2 hv hk3 hkr
        have hul : (nearOf T j.b).length ≤ 1000000 := Nat.le_trans (near_len T j.b) (by omega)
        generalize hKl : (nearOf T j.b).length = u at *
        clear hKl
        have hu1 : u ≤ cp := by omega
        have hw64 : wrap64 (u : Int) = u := wrap_nat u (by omega)
        clear hul
        have hix := pair_at1 j.a j.b wr
        gi_wp2
        refine wpIn_region_still_tail (fun _ => trivial) 14 (by kernel_rfl) (by kernel_rfl) (by kernel_rfl) ?_
        simp only [List.take_succ_cons, List.take_zero, List.drop_succ_cons, List.drop_zero]
        change wpStill Try.prog _ wr.drew (fun a' => wpListIn _ _ _ _ _ _ a' wr.drew) _ _
        iterate 13 still_step
        refine still_slice rfl rfl (run_slice3 Try.underlying60 je g (u + 1) cp u hu1 _) ?_
        refine wpStill_nil ?_
        gi_wp2
        go_roundw
        case rel =>
          exact ⟨2, rfl, by omega, ⟨_, midL_2 T j ▸ HN3.out⟩, HK3.out⟩
        case measure => simp [intOf]
      · have HN2 := Lib.hid hN2
        clear hN2
        gi_wp2
        have lr := L4.out.kept hkr (by omega) (by omega)
        have k7 := Kept.putObj wr (L + 1) (.loop r)
        have hne7 : ∀ x g, (N2 x).ownBlock = some g → ¬ g = L + 1 := fun x g hg e => clip_obj_ne (HN2.out.rows x) lr.rec_ (fun _ _ _ h => by cases h) (e ▸ hg)
        refine ⟨_, _, lr.end_ e5 e6, rfl, ⟨lr.put r, (B4.out.kept hkr n1).kept k7 (by omega), (Z2.out.kept hkr (by omega)).kept k7 (by omega), ⟨N2, ?_⟩, (((HX.out.kept.then_ HK4.out (fun i hi e => absurd e (by omega))).trans hkr).then_ k7 (fun i hi e => absurd e (by omega)))⟩, (HBW.out.keep hkr (by omega) hGn).keep k7 (by omega) (by omega)⟩
        have h7 := HN2.out.keep k7 (by omega) hne7
        rw [show m + 2 * (i + 1) = m + 2 * i + 2 by omega, show J.length - (i + 1) = q - i - 1 by rw [Hq.out]; omega, HT.out]
        exact h7
  · clear e1 e2 e3 e4
    rintro e W' ⟨rfl, hx, -⟩
    rw [hdl] at hx
    refine ⟨none, _, hx.loop.over_ e5 e6, ?_⟩
    obtain ⟨N7, hN7⟩ := hx.near
    rw [show J.length - (q - k) = k by rw [Hq.out]; omega] at hN7
    have k7 := Kept.putObj W' (L + 1) (.loop (overRec r))
    have l7 := hx.loop.put (overRec r)
    have b7 := hx.blk.kept k7 (by omega)
    have z7 := hx.x2.kept k7 (by omega)
    have n7 := hN7.keep k7 (by omega) (fun x g hg e => clip_obj_ne (hN7.rows x) hx.loop.rec_ (fun _ _ _ h => by cases h) (e ▸ hg))
    have kk7 := hx.kept.then_ k7 (fun i hi e => absurd e (by omega))
    generalize W'.putObj (L + 1) (.loop (overRec r)) = W7 at *
    have x0 := z7.cell 0
    have x1 := b7.cell 1
    have x1f := b7.frozen 1
    have x3 := b7.cell 3
    simp only [List.getElem?_toArray, List.getElem?_cons_zero, List.getElem?_cons_succ] at x0 x1 x3
    have N7' := Lib.hid n7
    have L7 := Lib.hid l7
    have K7 := Lib.hid kk7
    have Z7 := Lib.hid z7
    have B7 := Lib.hid b7
    clear hx hN7 n7 l7 kk7 z7 b7 k7
    obtain ⟨j0, ji, jz0, jz1, jz2⟩ := info_parts join_info
    have hA3 : A = none ∨ ∃ g, A = some ⟨g, 0, none⟩ := by
      rcases H0.out.own.2 with ⟨e, _⟩ | ⟨g, cap', cur, e, _⟩
      · injection e with e
        exact .inl e
      · injection e with e
        exact .inr ⟨g, e⟩
    have hkc : k ≤ cap := by omega
    obtain ⟨qf, hqf, _⟩ := H0.out.pairs
    have hbp := H0.out.lts.2.2.1
    have nbp : bp ≠ bf := fun e => H0.out.apart_pairs.1 e.symm
    have nbn : bp ≠ bn := fun e => H0.out.ne e.symm
    have hq7 := (((hqf.kept K7.out nbn).far (p := ⟨bf, 1, none⟩) nbp (.slice A k k)).drew)
    obtain ⟨w8, hclr, hq8, hg8⟩ := hq7.cleared Try.underlying47 0
    have Q8 := Lib.hid hq8
    have G8 := Lib.hid hg8
    have HQ7 := Lib.hid hq7
    clear hqf hq7 hq8 hg8
    go_upto_region 13 with (fail)
    refine wp_region_still_tail 10 (by kernel_rfl) (by kernel_rfl) ?_
    simp only [List.take_succ_cons, List.take_zero, List.drop_succ_cons, List.drop_zero]
    change wpStill Try.prog _ W7.drew (fun a' => wpList _ _ _ _ a' W7.drew) _ _
    iterate 7 still_step
    refine still_slice rfl rfl (run_slice3' Try.underlying45 ji A hA3 q cap k hkc _) ?_
    iterate 2 still_step
    refine wpStill_nil ?_
    go_wp2
    have k8 : Kept (fun b => b = bf ∨ b = bp) W7 w8 := (((Kept.refl _ W7).setCell (p := ⟨bf, 1, none⟩) (.inl (.inl rfl)) (.slice A k k)).drew).grown G8.out (fun z hz => .inl (.inr (by injection hz with hz; exact hz.symm)))
    have b8 : Blk w8 bf 49 #[.int .i64 n, .slice A k k, .map (some bn), .map (some bp)] := by
      have := ((B7.out.set_ 1 (.slice A k k)).drew).grown G8.out (fun e => nbp (by injection e with e; exact e.symm))
      simpa using this
    have l8 := L7.out.kept k8 (by omega) (by omega)
    have k9 := Kept.putObj w8 L (.deferred none)
    refine ⟨by simp, .inl ⟨_, _, rfl, run_takeDeferred l8.def_, ?_⟩⟩
    refine ⟨.int .i64 0, by simp [results, Try.results13, go_sem], .slice A k k, N7, rfl, ?_, ?_⟩
    · exact back_fr H0.out (by rw [Hq.out]; exact hk) K7.out k8 b8 B7.out N7'.out Q8.out L7.out.def_ k9 (by omega)
    · exact Kf.of_kept (S := fun b => b = bn ∨ b = bf ∨ b = bp) (((K7.out.mono (fun _ _ h => .inl h)).trans (k8.mono (fun _ _ h => .inr h))).then_ k9 (fun i hi e => absurd e (by omega))) (fun b _ hb => H0.out.noInt (by
        rcases hb with h | h | h
        · exact .inr (.inl h)
        · exact .inl h
        · exact .inr (.inr (.inl h))))
end
end Go.Proofs.Ythhnlkbnphiaoaa

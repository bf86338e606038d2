/- share.Nodes, share.Laid, share.All. -/
import Derived.Test.YtlipnnibagidiaaGreatRdD
import Derived.Test.YtlipnnibagidiaaGreatSwH
import Derived.Laws.OwnMore
namespace Go.Proofs.YtlipnnibagidiaaGreat
open Go.RowKit Go.Lib
open Go.Maps (Keyed)
attribute [local go_sem] Oper.semAt_some

theorem ownL_low {w : World} {a b : Nat} {v : Value} {l : List Int} (h : OwnL w b v l) (hb : a ≤ b) : OwnL w a v l := ⟨h.1, h.2.imp id fun ⟨g, cap, cur, e, h1, r⟩ => ⟨g, cap, cur, e, Nat.le_trans hb h1, r⟩⟩
/-- What Nodes comes to. -/
def SNodesIs (T : List Nd) (w : World) (e : Ending) (w' : World) : Prop :=
  ∃ v, e = .returned v ∧ OwnL w' w.heap.size v (if coreB T then nodesT T else []) ∧ Below w.heap.size w w'
set_option maxRecDepth 100000 in
set_option maxHeartbeats 2000000 in
theorem snodes_ok {T : List Nd} {w : World} {A : Option Addr} (c : Nat) (hc : T.length ≤ c) (h : Tab w A T) :
    Calls Tryz.prog 29 #[.agg #[.slice A T.length c]] w (SNodesIs T w) := by
  have H := Lib.hid h
  have HB0 : Hid (Below w.heap.size w (w.alloc (.cells #[.slice A T.length c] 33))) := Lib.hid ((Below.refl _ w).alloc (Nat.le_refl _) _)
  have HT0 : Hid (Blk (w.alloc (.cells #[.slice A T.length c] 33)) w.heap.size 33 #[.slice A T.length c]) := Lib.hid (Blk.new w _ _)
  have HC := Lib.hid hc
  clear hc h
  go_enter Tryz.func29, Tryz.ntmps29
  go_wp2_with fail
  refine (score_ok c HC.out (H.out.below HB0.out)).mono ?_
  rintro e w1 ⟨rfl, hb1⟩
  have HB1 := Lib.hid (HB0.out.trans (hb1.mono HB0.out.size))
  have HT1 := Lib.hid (HT0.out.below hb1 HT0.out.lt)
  have a1 := HT1.out.cell 0
  simp only [List.getElem?_toArray, List.getElem?_cons_zero] at a1
  clear hb1
  have HG : Hid (SNodesIs T w = fun e w' => ∃ v, e = .returned v ∧ OwnL w' w.heap.size v (if coreB T then nodesT T else []) ∧ Below w.heap.size w w') := Lib.hid rfl
  generalize hcb : coreB T = cb at *
  cases cb with
  | false =>
    clear hcb
    go_wp2
    refine bodyPost_ret (v := .slice none 0 0) (by simp [results, Tryz.results29, go_sem]) rfl ?_
    rw [HG.out]
    exact ⟨_, rfl, World.ownsRow_nil _ _ _ _, HB1.out⟩
  | true =>
    have HCT := Lib.hid (coreB_iff.1 hcb)
    clear hcb
    go_wp2_with fail
    refine (nodes_ok c (H.out.below HB1.out) HCT.out.ok).mono ?_
    rintro e w2 ⟨v, rfl, hv, hb2⟩
    have HV := Lib.hid hv
    have HB2 := Lib.hid hb2
    clear hv hb2
    go_wp2
    refine bodyPost_ret (v := v) (by simp [results, Tryz.results29, go_sem]) rfl ?_
    rw [HG.out]
    exact ⟨v, rfl, ownL_low HV.out HB1.out.size, HB1.out.trans (HB2.out.mono HB1.out.size)⟩

/-- What Laid comes to. -/
def SLaidIs (T : List Nd) (w : World) (e : Ending) (w' : World) : Prop := e = .returned (.bool (laidB T)) ∧ Below w.heap.size w w'
set_option maxRecDepth 100000 in
set_option maxHeartbeats 2000000 in
theorem slaid_ok {T : List Nd} {w : World} {A : Option Addr} (c : Nat) (hc : T.length ≤ c) (h : Tab w A T) (hl : (nodesT T).length ≤ 500) :
    Calls Tryz.prog 52 #[.agg #[.slice A T.length c]] w (SLaidIs T w) := by
  have KA := Lib.hid (fun W (hb : Below w.heap.size w W) => all_ok c hc (h.below hb) hl)
  have HB0 : Hid (Below w.heap.size w (w.alloc (.cells #[.slice A T.length c] 33))) := Lib.hid ((Below.refl _ w).alloc (Nat.le_refl _) _)
  have KB := Lib.hid (KA.out _ HB0.out)
  clear hc h hl
  go_enter Tryz.func52, Tryz.ntmps52
  go_wp2_with fail
  refine KB.out.mono ?_
  rintro e w1 ⟨v, m, rfl, ⟨VA, vn, vc, rfl⟩, hm, hx, hb⟩
  have HB1 := Lib.hid (HB0.out.trans (hb.mono HB0.out.size))
  clear hx hb hm
  go_wp2
  refine bodyPost_ret (v := .bool (laidB T)) (by simp [results, Tryz.results52, go_sem]) rfl ?_
  exact ⟨rfl, HB1.out⟩

/-- What All comes to. -/
def SAllIs (T : List Nd) (w : World) (e : Ending) (w' : World) : Prop :=
  ∃ v rows, e = .returned (.tuple #[v, .int .i64 (if laidB T then 0 else 2)]) ∧ GridV (fun b => w.heap.size ≤ b) w' v rows ∧ rows.map (fun r => r.2.2) = (if laidB T then allT T else []) ∧ Below w.heap.size w w'
theorem GridV.nil (N : Nat → Prop) (w : World) : GridV N w (.slice none 0 0) [] := ⟨by simp, ⟨none, 0, rfl, fun _ => rfl, Nat.le_refl _, .inl rfl⟩, fun r hr => by cases hr⟩
set_option maxRecDepth 100000 in
set_option maxHeartbeats 2000000 in
theorem sall_ok {T : List Nd} {w : World} {A : Option Addr} (c : Nat) (hc : T.length ≤ c) (h : Tab w A T) (hl : (nodesT T).length ≤ 500) :
    Calls Tryz.prog 32 #[.agg #[.slice A T.length c]] w (SAllIs T w) := by
  have KA := Lib.hid (fun W (hb : Below w.heap.size w W) => all_ok c hc (h.below hb) hl)
  have HB0 : Hid (Below w.heap.size w (w.alloc (.cells #[.slice A T.length c] 33))) := Lib.hid ((Below.refl _ w).alloc (Nat.le_refl _) _)
  have KB := Lib.hid (KA.out _ HB0.out)
  clear hc h hl
  go_enter Tryz.func32, Tryz.ntmps32
  go_wp2_with fail
  refine KB.out.mono ?_
  rintro e w1 ⟨v, m, rfl, ⟨VA, vn, vc, rfl⟩, hm, hx, hb⟩
  have HB1 := Lib.hid (HB0.out.trans (hb.mono HB0.out.size))
  have HX := Lib.hid hx
  have HG : Hid (SAllIs T w = fun e w' => ∃ v rows, e = .returned (.tuple #[v, .int .i64 (if laidB T then 0 else 2)]) ∧ GridV (fun b => w.heap.size ≤ b) w' v rows ∧ rows.map (fun r => r.2.2) = (if laidB T then allT T else []) ∧ Below w.heap.size w w') := Lib.hid rfl
  clear hx hb hm
  generalize laidB T = lb at *
  cases lb with
  | false =>
    go_wp2
    refine bodyPost_ret (v := .tuple #[.slice none 0 0, .int .i64 2]) (by simp [results, Tryz.results32, go_sem]) rfl ?_
    rw [HG.out]
    exact ⟨_, [], rfl, GridV.nil _ _, rfl, HB1.out⟩
  | true =>
    obtain ⟨rows, Mb, n, f, hgv, hr, -, -, -⟩ := HX.out rfl
    have HGV := Lib.hid hgv
    have HR := Lib.hid hr
    clear hgv hr
    go_wp2
    refine bodyPost_ret (v := .tuple #[.slice VA vn vc, .int .i64 0]) (by simp [results, Tryz.results32, go_sem]) rfl ?_
    rw [HG.out]
    exact ⟨_, rows, rfl, HGV.out.mono (fun b _ hb => Nat.le_trans HB0.out.size hb), HR.out, HB1.out⟩
end Go.Proofs.YtlipnnibagidiaaGreat

/- gantrylaw26.wakes. -/
namespace Go.Proofs.YtlipnnibagidiaaGreat
open Go.RowKit Go.Lib
open Go.Maps (Keyed)
attribute [local go_sem] Oper.semAt_some

def NewOwn (w : World) (e : Ending) (w' : World) : Prop := ∃ g, e = .returned (.agg #[.slice (some ⟨g, 0, none⟩) 2 2]) ∧ w'.ownsRow w.heap.size 51 8 (.slice (some ⟨g, 0, none⟩) 2 2) 2 (twoNd.flatMap nodeCells) ∧ Below w.heap.size w w'
theorem rnew_own (w : World) : Calls Tryz.prog 41 #[] w (NewOwn w) := by
  have H : Hid (NewOwn w (.returned (.agg #[.slice (some ⟨w.heap.size + 1, 0, none⟩) 2 2])) ((w.alloc (.cells #[.slice (some ⟨w.heap.size + 1, 0, none⟩) 2 2] 33)).alloc (.cells (twoNd.flatMap nodeCells).toArray 51))) := Lib.hid ⟨_, rfl, ⟨rfl, .inr ⟨_, 2, (twoNd.flatMap nodeCells).toArray, rfl, by omega, Blk.new_at (by simp) _ _, by decide, by decide, rfl, rfl⟩⟩, ((Below.refl _ w).alloc (Nat.le_refl _) _).alloc (by simp) _⟩
  go_enter Tryz.func41, Tryz.ntmps41
  go_wp2
  refine bodyPost_ret (v := .agg #[.slice (some ⟨w.heap.size + 1, 0, none⟩) 2 2]) (by simp [results, Tryz.results41, go_sem]) rfl ?_
  exact H.out
theorem shW_wf : ∀ n ∈ shW, NdWf n := by
  intro n hn
  simp only [shW, List.mem_cons, List.not_mem_nil, or_false] at hn
  rcases hn with rfl | rfl | rfl | rfl | rfl | rfl
  all_goals
    refine ⟨by decide, by decide, fun j => ?_, by decide, by decide, by decide⟩
    unfold Nd.arg
    repeat' split
    all_goals decide
theorem own_tabW {w : World} {B g c : Nat} (h : w.ownsRow B 51 8 (.slice (some ⟨g, 0, none⟩) (2 + 4) c) (2 + 4) (twoNd.flatMap nodeCells ++ (shW.drop 2).flatMap nodeCells)) : Tab w (some ⟨g, 0, none⟩) shW := by
  have e : twoNd.flatMap nodeCells ++ (shW.drop 2).flatMap nodeCells = shW.flatMap nodeCells := rfl
  rw [e] at h
  refine ⟨by decide, .inr ⟨g, 0, rfl, own_lt h, fun i hi => ⟨own_lt h, fun j hj => ?_, shW_wf _ (List.getElem_mem hi)⟩⟩⟩
  have := own_cell nodeCells (fun _ => rfl) h hi hj
  simpa using this
/-- The table, laid. -/
def shO : List Nd := shW ++ [eqNd 2 3]
theorem shO_nodes : (nodesT shO).length ≤ 500 := by decide +kernel
theorem shW_nodes5 : (nodesT shW).length ≤ 500 := by decide +kernel
theorem shO_laid : laidB shO = true := by decide +kernel
theorem shW_laid : laidB shW = false := by decide +kernel
theorem shO_all : allT shO = [[13]] := by decide +kernel
theorem wnodes_ok {w : World} {A : Option Addr} (c : Nat) (hc : 6 ≤ c) (h : Tab w A shW) :
    Calls Tryz.prog 29 #[.agg #[.slice A 6 c]] w fun e w' => ∃ g q, e = .returned (.slice (some ⟨g, 0, none⟩) 2 q) ∧ w'.cell? ⟨g, 0, none⟩ = some (.int .i64 2) ∧ w'.cell? ⟨g, 1, none⟩ = some (.int .i64 3) ∧ w.heap.size ≤ g ∧ g < w'.heap.size ∧ Below w.heap.size w w' := by
  refine (snodes_ok (T := shW) c hc h).mono ?_
  rintro e w' ⟨v, rfl, ho, hb⟩
  rw [if_pos shW_core, shW_nodes] at ho
  obtain ⟨g, q, rfl, h1, h2, _⟩ := own_form ho (by decide)
  refine ⟨g, q, rfl, ?_, ?_, h1, h2, hb⟩
  · exact ho.cells (g := g) rfl 0 (.int .i64 2) rfl
  · exact ho.cells (g := g) rfl 1 (.int .i64 3) rfl
theorem wput_ok {w : World} {A : Option Addr} (c : Nat) (hc : 6 ≤ c) (h : Tab w A shW) :
    Calls Tryz.prog 25 #[.agg #[.slice A 6 c], .int .i64 20] w fun e w' => ∃ A' q, e = .returned (.tuple #[.agg #[.slice A' 7 q], .int .i64 0]) ∧ Tab w' A' shO ∧ 7 ≤ q ∧ Below w.heap.size w w' := by
  refine (sput_ok (T := shW) c 20 hc h (by decide)).mono ?_
  rintro e w' ⟨A', q, rfl, ht, hq, hb⟩
  obtain ⟨p1, p2⟩ := shW_put
  rw [p2] at ht hq
  rw [p1, p2]
  exact ⟨A', q, rfl, ht, hq, hb⟩
theorem wall_ok {w : World} {A : Option Addr} (c : Nat) (hc : 7 ≤ c) (h : Tab w A shO) :
    Calls Tryz.prog 32 #[.agg #[.slice A 7 c]] w fun e w' => ∃ b off q b2 off2 q2, e = .returned (.tuple #[.slice (some ⟨b, off, none⟩) 1 q, .int .i64 0]) ∧ w'.cell? ⟨b, off, none⟩ = some (.slice (some ⟨b2, off2, none⟩) 1 q2) ∧ w'.cell? ⟨b2, off2, none⟩ = some (.int .i64 13) ∧ b < w'.heap.size ∧ b2 < w'.heap.size ∧ 1 ≤ q ∧ 1 ≤ q2 ∧ Below w.heap.size w w' := by
  refine (sall_ok (T := shO) c hc h shO_nodes).mono ?_
  rintro e w' ⟨v, rows, rfl, hg, hr, hb⟩
  rw [if_pos shO_laid, shO_all] at hr
  rw [if_pos shO_laid]
  obtain ⟨x, hx⟩ : ∃ x, rows = [x] := by
    have h1 := congrArg List.length hr
    rw [List.length_map] at h1
    match rows, h1 with
    | [x], _ => exact ⟨x, rfl⟩
  obtain ⟨a, q2, l⟩ := x
  subst hx
  have hl : l = [13] := by simpa using hr
  subst hl
  obtain ⟨VA, q, rfl, _, hq, hat⟩ := hg.form
  obtain ⟨b, off, rfl, _, hlt, hcell⟩ := hat.resolve_left (by simp)
  obtain ⟨hrow, _, hq2⟩ := hg.rows (a, q2, [13]) (by simp)
  obtain ⟨b2, off2, ha, _, hlt2, hcell2⟩ := hrow.at_.resolve_left (by simp)
  simp only at ha
  subst ha
  exact ⟨b, off, q, b2, off2, q2, rfl, hcell 0 (by simp), hcell2 0 (by simp), hlt, hlt2, hq, hq2, hb⟩
theorem wlaidO_ok {w : World} {A : Option Addr} (c : Nat) (hc : 7 ≤ c) (h : Tab w A shO) :
    Calls Tryz.prog 52 #[.agg #[.slice A 7 c]] w fun e w' => e = .returned (.bool true) ∧ Below w.heap.size w w' := by
  refine (slaid_ok (T := shO) c hc h shO_nodes).mono ?_
  rintro e w' ⟨rfl, hb⟩
  rw [shO_laid]
  exact ⟨rfl, hb⟩
theorem wlaidW_ok {w : World} {A : Option Addr} (c : Nat) (hc : 6 ≤ c) (h : Tab w A shW) :
    Calls Tryz.prog 52 #[.agg #[.slice A 6 c]] w fun e w' => e = .returned (.bool false) ∧ Below w.heap.size w w' := by
  refine (slaid_ok (T := shW) c hc h shW_nodes5).mono ?_
  rintro e w' ⟨rfl, hb⟩
  rw [shW_laid]
  exact ⟨rfl, hb⟩
set_option maxRecDepth 100000 in
set_option maxHeartbeats 4000000 in
theorem wakes_ok (w : World) : Calls Tryz.prog 24 #[] w (fun e w' => e = .returned (.bool true) ∧ Below w.heap.size w w') := by
  have hfd : ∀ (W : World) (a : Option Addr) (l c : Nat), (Instr.field 33 (.agg #[.slice a l c]) 0).run Tryz.prog W = .ok (.slice a l c) W := fun _ _ _ _ => by kernel_rfl
  obtain ⟨i0, hi, hz0, hz1, hz2⟩ := info_parts node_info
  go_enter Tryz.func24, Tryz.ntmps24
  go_wp2_with fail
  refine (rnew_own _).mono ?_
  rintro e w1 ⟨g, rfl, hown, hb⟩
  have HO1 := Lib.hid hown
  have HB1 := Lib.hid hb
  have HX1 : Hid (Blk (w1.alloc (.cells #[.slice (some ⟨g, 0, none⟩) 2 2] 33)) w1.heap.size 33 #[.slice (some ⟨g, 0, none⟩) 2 2]) := Lib.hid (Blk.new w1 _ _)
  have HO2 : Hid ((w1.alloc (.cells #[.slice (some ⟨g, 0, none⟩) 2 2] 33)).ownsRow w.heap.size 51 8 (.slice (some ⟨g, 0, none⟩) 2 2) 2 (twoNd.flatMap nodeCells)) := Lib.hid (own_kept hown ((Kept.refl (fun _ => False) w1).alloc _) (fun _ _ h => h))
  have HBW : Hid (Below w.heap.size w (w1.alloc (.cells #[.slice (some ⟨g, 0, none⟩) 2 2] 33))) := Lib.hid (hb.alloc hb.size _)
  obtain ⟨w2, hw2⟩ : ∃ w2, w1.alloc (.cells #[.slice (some ⟨g, 0, none⟩) 2 2] 33) = w2 := ⟨_, rfl⟩
  rw [hw2] at HX1 HO2 HBW
  have x1 := HX1.out.cell 0
  have fx1 := HX1.out.frozen 0
  simp only [List.getElem?_toArray, List.getElem?_cons_zero] at x1
  clear hown hb HO1
  have HLT := Lib.hid (show w1.heap.size < w2.heap.size from HX1.out.lt)
  go_wp2_with (at_builtin; (refine wpList_append_lies _ rfl (.tmp 9) (.tmp 17) 31 rfl w.heap.size 51 i0 (.agg #[.int .i8 0, .int .i8 0, .int .i64 0, .int .i64 0, .int .i64 0, .int .i64 0, .int .i64 0, .int .i64 0]) 8 56 Tryz.underlying31 hi hz0 hz1 hz2 rfl (by decide) _ 2 (twoNd.flatMap nodeCells) rfl (own_kept HO2.out ((Kept.refl (fun _ => False) w2).alloc _) (fun _ _ h => h)) ⟨w2.heap.size, 0, none⟩ 4 4 ((shW.drop 2).flatMap nodeCells) rfl rfl (World.news_of_block (Blk.new w2 _ _)) (by decide) (by decide) (by decide) (by decide) (by simp; have := HBW.out.size; omega) _ rfl ?_; intro ga ca w3 ho3 hg3 _ _; have HO3 := Lib.hid ho3; have HB3 := Lib.hid (Below.grown (HBW.out.alloc HBW.out.size _) hg3 (by have := HBW.out.size; simp; omega) (fun k hk => (HO2.out.lt k hk).1)); have HX3 := Lib.hid ((HX1.out.alloc (.cells ((shW.drop 2).flatMap nodeCells).toArray 51)).grown hg3 (fun e => own_blk_ne HO2.out HX1.out (by decide) e.symm)); have cx := HX3.out.cell 0; have fx := HX3.out.frozen 0; simp only [List.getElem?_toArray, List.getElem?_cons_zero] at cx; clear ho3 hg3))
  have ho4 := own_kept HO3.out (Kept.set1 w3 w1.heap.size 0 (.slice (some ⟨ga, 0, none⟩) 6 ca)) (fun k hk e => own_blk_ne HO3.out HX3.out (by decide) (by rw [hk, e]))
  have HT4 := Lib.hid (own_tabW ho4)
  have HC4 : Hid (6 ≤ ca) := Lib.hid (by obtain ⟨_, _, e, _, _, hc⟩ := own_form ho4 (by omega); injection e with _ _ e; omega)
  have HX4 := Lib.hid (HX3.out.set_ 0 (.slice (some ⟨ga, 0, none⟩) 6 ca))
  simp only [List.setIfInBounds_toArray, List.set_cons_zero] at HX4
  have HB4 := Lib.hid (HB3.out.setCell (p := ⟨w1.heap.size, 0, none⟩) HB1.out.size (.slice (some ⟨ga, 0, none⟩) 6 ca))
  clear ho4 cx fx x1 fx1 hfd hi hz0 hz1 hz2 hw2 HO3 HX3 HO2 HX1 HB3 HBW HLT
  generalize w3.setCell ⟨w1.heap.size, 0, none⟩ (.slice (some ⟨ga, 0, none⟩) 6 ca) = w4 at *
  have x4 := HX4.out.cell 0
  simp only [List.getElem?_toArray, List.getElem?_cons_zero] at x4
  refine (wnodes_ok ca HC4.out HT4.out).mono ?_
  rintro e w5 ⟨lg, lq, rfl, l0, l1, lg1, lg2, hb5⟩
  have HT5 := Lib.hid (HT4.out.below hb5)
  have HX5 := Lib.hid (HX4.out.below hb5 HX4.out.lt)
  have HB5 := Lib.hid (HB4.out.trans (hb5.mono HB4.out.size))
  have x5 := HX5.out.cell 0
  simp only [List.getElem?_toArray, List.getElem?_cons_zero] at x5
  clear hb5 x4
  go_wp2_with fail
  refine (wput_ok ca HC4.out HT5.out).mono ?_
  rintro e w6 ⟨A6, q6, rfl, ht6, hq6, hb6⟩
  have HB6 := Lib.hid (HB5.out.trans (hb6.mono HB5.out.size))
  have HT6 := Lib.hid (HT5.out.below hb6)
  have HX6 := Lib.hid (HX5.out.below hb6 HX5.out.lt)
  have HO6 := Lib.hid ht6
  have HQ6 := Lib.hid hq6
  have L0 : Hid (w6.cell? ⟨lg, 0, none⟩ = some (.int .i64 2)) := Lib.hid (by rw [← l0]; exact hb6.cell lg2)
  have L1 : Hid (w6.cell? ⟨lg, 1, none⟩ = some (.int .i64 3)) := Lib.hid (by rw [← l1]; exact hb6.cell lg2)
  have LG : Hid (lg < w6.heap.size) := Lib.hid (Nat.lt_of_lt_of_le lg2 hb6.size)
  clear hb6 ht6 hq6 l0 l1 lg1 lg2 x5
  have hbA : Below w6.heap.size w6 (w6.alloc (.cells #[.slice A6 7 q6] 33)) := (Below.refl _ w6).alloc (Nat.le_refl _) _
  have HB7 := Lib.hid (HB6.out.trans (hbA.mono HB6.out.size))
  have HT7 := Lib.hid (HT6.out.below hbA)
  have HX7 := Lib.hid (HX6.out.below hbA HX6.out.lt)
  have HO7 := Lib.hid (HO6.out.below hbA)
  have HP7 := Lib.hid (Blk.new w6 33 #[.slice A6 7 q6])
  have K0 : Hid ((w6.alloc (.cells #[.slice A6 7 q6] 33)).cell? ⟨lg, 0, none⟩ = some (.int .i64 2)) := Lib.hid (by rw [← L0.out]; exact hbA.cell LG.out)
  have K1 : Hid ((w6.alloc (.cells #[.slice A6 7 q6] 33)).cell? ⟨lg, 1, none⟩ = some (.int .i64 3)) := Lib.hid (by rw [← L1.out]; exact hbA.cell LG.out)
  have KG : Hid (lg < (w6.alloc (.cells #[.slice A6 7 q6] 33)).heap.size) := Lib.hid (Nat.lt_of_lt_of_le LG.out hbA.size)
  have x7 := HP7.out.cell 0
  simp only [List.getElem?_toArray, List.getElem?_cons_zero] at x7
  clear hbA L0 L1 LG
  go_wp2_with fail
  refine (wall_ok q6 HQ6.out HO7.out).mono ?_
  rintro e w8 ⟨b, off, q, b2, off2, q2, rfl, c1, c2, hlt1, hlt2, hq1, hq2, hb8⟩
  have x8 := (HP7.out.below hb8 HP7.out.lt).cell 0
  have y8 := (HX7.out.below hb8 HX7.out.lt).cell 0
  have l0 : w8.cell? ⟨lg, 0, none⟩ = some (.int .i64 2) := by rw [← K0.out]; exact hb8.cell KG.out
  have l1 : w8.cell? ⟨lg, 1, none⟩ = some (.int .i64 3) := by rw [← K1.out]; exact hb8.cell KG.out
  have HB8 := Lib.hid (HB7.out.trans (hb8.mono HB7.out.size))
  have HT8 := Lib.hid (HT7.out.below hb8)
  have HO8 := Lib.hid (HO7.out.below hb8)
  have HX8 := Lib.hid (HX7.out.below hb8 HX7.out.lt)
  simp only [List.getElem?_toArray, List.getElem?_cons_zero] at x8 y8
  clear hb8 x7
  go_wp2_with fail
  refine (wlaidO_ok q6 HQ6.out HO8.out).mono ?_
  rintro e w9 ⟨rfl, hb9⟩
  have y9 := (HX8.out.below hb9 HX8.out.lt).cell 0
  have HB9 := Lib.hid (HB8.out.trans (hb9.mono HB8.out.size))
  have HT9 := Lib.hid (HT8.out.below hb9)
  simp only [List.getElem?_toArray, List.getElem?_cons_zero] at y9
  clear hb9 x8 y8 l0 l1 c1 c2
  go_wp2_with fail
  refine (wlaidW_ok ca HC4.out HT9.out).mono ?_
  rintro e w10 ⟨rfl, hb10⟩
  have HB10 := Lib.hid (HB9.out.trans (hb10.mono HB9.out.size))
  clear hb10 y9
  go_wp2
  refine bodyPost_ret (v := .bool true) (by simp [results, Tryz.results24, go_sem]) rfl ?_
  exact ⟨rfl, HB10.out⟩
end Go.Proofs.YtlipnnibagidiaaGreat

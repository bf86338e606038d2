/- Join. -/
import Derived.Test.YtkapbdjobfbhhaaGreatOneC
import Derived.StillTailTactics
import Derived.OrdersIn
import Derived.OwnWalkIn
namespace Go.Proofs.YtkapbdjobfbhhaaGreat
open Go.RowKit
open Go.Maps (Keyed)
theorem wint_info : (Tryz.prog.info? 3).map (fun i => (i.zero, i.size, i.bytes)) = some (some (.int .i64 0), 1, 8) := by kernel_rfl
def Foot (bf bn bp : Nat) (lj : Value) (N : Int → Value) (b : Nat) : Prop := b = bf ∨ b = bn ∨ b = bp ∨ lj.ownBlock = some b ∨ ∃ x, (N x).ownBlock = some b
def Kf (B : Nat) (w w' : World) : Prop := Kept (fun b => B ≤ b ∧ ∀ cs, ¬ Blk w b 3 cs) w w'
theorem Kf.of_kept {B : Nat} {S : Nat → Prop} {w w' : World} (h : Kept S w w') (hs : ∀ b, b < w.heap.size → S b → B ≤ b ∧ ∀ cs, ¬ Blk w b 3 cs) : Kf B w w' := h.mono hs
theorem Kf.of_below {B : Nat} {w w' : World} (h : Below w.heap.size w w') : Kf B w w' := (Kept.of_below (S := fun _ => False) h).mono fun _ _ hf => hf.elim
theorem Kf.refl (B : Nat) (w : World) : Kf B w w := Kept.refl _ _
theorem Kf.trans {B : Nat} {w w' w2 : World} (h : Kf B w w') (k : Kf B w' w2) : Kf B w w2 := by
  refine Kept.then_ h k fun i hi hs => ?_
  refine ⟨hs.1, fun cs hc => hs.2 cs (hc.kept h fun hn => hn.2 cs hc)⟩
theorem Kf.row {B base n : Nat} {v : Value} {xs : List Value} {w w' : World} (h : Kf B w w') (ho : w.ownsRow base 3 1 v n xs) : w'.ownsRow base 3 1 v n xs :=
  own_kept ho h fun g hg hs => by
    obtain ⟨cs, hc⟩ := own_heap ho hg
    exact hs.2 cs hc
theorem Kf.below {B : Nat} {w w' : World} (h : Kf B w w') (hB : B ≤ w.heap.size) : Below B w w' := Kept.below h hB fun _ hs => hs.1
def upd {α : Type} (N : Int → α) (a : Int) (v : α) (x : Int) : α := if x = a then v else N x
theorem upd_at {α : Type} (N : Int → α) (a : Int) (v : α) : upd N a v a = v := if_pos rfl
theorem upd_far {α : Type} (N : Int → α) {a x : Int} (v : α) (h : x ≠ a) : upd N a v x = N x := if_neg h
structure Near (w : World) (B bn m : Nat) (N : Int → Value) (L : Int → List (Int × Int)) : Prop where
  map_ : ∃ f, MapAt Tryz.prog 3 w bn m f ∧ ∀ x, f (.int .i64 x) = some (N x) ∨ (f (.int .i64 x) = none ∧ N x = .slice none 0 0)
  rows : ∀ x, clipRow w B 152 2 (N x) (L x).length ((L x).flatMap edgeCells)
  apart : ∀ x y g, x ≠ y → (N x).ownBlock = some g → (N y).ownBlock ≠ some g
section
variable {w w' : World} {B bn m : Nat} {N : Int → Value} {L : Int → List (Int × Int)}
theorem Near.keep {S : Nat → Prop} (h : Near w B bn m N L) (hk : Kept S w w') (h2 : ¬ S bn) (h5 : ∀ x g, (N x).ownBlock = some g → ¬ S g) : Near w' B bn m N L := by
  obtain ⟨f, hf, hf2⟩ := h.map_
  exact ⟨⟨f, hf.kept hk h2, hf2⟩, fun x => clip_kept (h.rows x) hk (h5 x), h.apart⟩
theorem Near.look (h : Near w B bn m N L) (a : Int) (ha : 0 ≤ a ∧ a ≤ 4096) : (Instr.lookup 121 (.map (some bn)) (.int .i64 a) false).run Tryz.prog w = .ok (N a) w := by
  obtain ⟨f, hf, hf2⟩ := h.map_
  have := hf.look int_key Tryz.underlying121 (zero_edges _) (int_key_of (x := a) (by omega) (by omega)) false
  rcases hf2 a with h1 | ⟨h1, h2⟩
  · rw [h1] at this
    exact this
  · rw [h1] at this
    rw [h2]
    exact this
set_option maxRecDepth 100000 in
theorem Near.put (h : Near w B bn m N L) (a : Int) (ha : 0 ≤ a ∧ a ≤ 4096) (hm : m ≤ 2000000) {S : Nat → Prop} (hk : Kept S w w') (h2 : ¬ S bn) (h5 : ∀ x g, x ≠ a → (N x).ownBlock = some g → ¬ S g)
    {v : Value} {K : List (Int × Int)} (hv : clipRow w' B 152 2 v K.length (K.flatMap edgeCells)) (hat : ∀ x g, x ≠ a → (N x).ownBlock = some g → v.ownBlock ≠ some g) :
    ∃ w2, (Instr.mapUpdate 121 (.map (some bn)) (.int .i64 a) v).run Tryz.prog w' = .ok () w2 ∧ Near w2 B bn (m + 1) (upd N a v) (upd L a K) ∧ w'.grownBy w2 (some bn) := by
  obtain ⟨f, hf, hf2⟩ := h.map_
  have hf' := hf.kept hk h2
  obtain ⟨w2, hrun, hm2, hg⟩ := hf'.store int_key Tryz.underlying121 (by unfold maxLen; omega) (int_key_of (x := a) (by omega) (by omega)) v (g := putFn f (.int .i64 a) v) (putFn_at _ _ _) (fun x hx => putFn_far _ _ _ x hx)
  refine ⟨w2, hrun, ⟨⟨_, hm2, fun x => ?_⟩, fun x => ?_, fun x y g hxy hx => ?_⟩, hg⟩
  · by_cases hx : x = a
    · subst hx
      rw [upd_at]
      exact .inl (putFn_at _ _ _)
    · rw [upd_far _ _ hx, putFn_far _ _ _ _ (fun e => hx (by injection e))]
      exact hf2 x
  · have hk2 : Kept (fun b => b = bn) w' w2 := (Kept.refl _ w').grown hg (fun k hk => .inl (by injection hk with hk; exact hk.symm))
    by_cases hx : x = a
    · subst hx
      rw [upd_at, upd_at]
      exact clip_kept hv hk2 (fun g hg e => map_clip_ne hf' hv (e ▸ hg))
    · rw [upd_far _ _ hx, upd_far _ _ hx]
      have hr := clip_kept (h.rows x) hk (fun g hg => h5 x g hx hg)
      exact clip_kept hr hk2 (fun g hg e => map_clip_ne hf' hr (e ▸ hg))
  · by_cases hxa : x = a
    · have hya : y ≠ a := fun e => hxy (hxa.trans e.symm)
      rw [hxa, upd_at] at hx
      rw [upd_far _ _ hya]
      exact fun hy => hat y g hya hy hx
    · rw [upd_far _ _ hxa] at hx
      by_cases hya : y = a
      · rw [hya, upd_at]
        exact hat x g hxa hx
      · rw [upd_far _ _ hya]
        exact h.apart x y g hxy hx
set_option maxRecDepth 100000 in
theorem Near.push (h : Near w B bn m N L) (a : Int) (ha : 0 ≤ a ∧ a ≤ 4096) (hm : m ≤ 2000000) {W1 : World} (hk0 : Kept (fun _ => False) w W1) {v : Value} (hva : N a = v) {g cap : Nat} {e : Int × Int}
    (hown : clipRow w' B 152 2 (.slice (some ⟨g, 0, none⟩) ((L a).length + 1) cap) ((L a).length + 1) ((L a).flatMap edgeCells ++ edgeCells e)) (hgrow : W1.grownBy w' v.ownBlock) (hat : v.ownBlock = some g ∨ g = W1.heap.size) :
    ∃ w2, (Instr.mapUpdate 121 (.map (some bn)) (.int .i64 a) (.slice (some ⟨g, 0, none⟩) ((L a).length + 1) cap)).run Tryz.prog w' = .ok () w2 ∧ Near w2 B bn (m + 1) (upd N a (.slice (some ⟨g, 0, none⟩) ((L a).length + 1) cap)) (upd L a (L a ++ [e])) ∧
      Kept (fun b => b = bn ∨ v.ownBlock = some b) w w2 := by
  subst hva
  have hk : Kept (fun b => (N a).ownBlock = some b) w w' := (hk0.mono (fun _ _ h => h.elim)).grown hgrow (fun k hk => .inl hk)
  obtain ⟨f, hf, _⟩ := h.map_
  obtain ⟨w2, hrun, hN, hg⟩ := h.put a ha hm hk (map_clip_ne hf (h.rows a)) (fun x q hx hq e => h.apart x a q hx hq e) (v := .slice (some ⟨g, 0, none⟩) ((L a).length + 1) cap) (K := L a ++ [e]) (by
      rw [List.length_append, List.length_singleton, List.flatMap_append]
      simpa using hown) (fun x q hx hq e => by
      have e2 : g = q := by simpa [Value.ownBlock] using e
      rcases hat with hat | hat
      · exact h.apart x a _ hx hq (e2 ▸ hat)
      · have h1 := (clip_lt (h.rows x) _ hq).2
        have h2 := hk0.size
        omega)
  refine ⟨w2, hrun, hN, (hk.mono (fun _ _ h => .inr h)).grown hg (fun k hk => .inl (.inl (by injection hk with hk; exact hk.symm)))⟩
end
theorem near_len (J : List Jn) (x : Int) : (nearOf J x).length ≤ 2 * J.length := by
  induction J using snoc_ind with
  | h0 => simp [nearOf]
  | h1 J j ih =>
    rw [nearOf_snoc, List.length_append, List.length_append, List.length_singleton]
    have : (seenBy j x).length ≤ 2 := by
      unfold seenBy
      rw [List.length_append]
      split <;> split <;> simp
    omega
theorem nearOf_join (J : List Jn) (a b r : Int) (hab : a ≠ b) : (fun x => nearOf (J ++ [⟨a, b, r⟩]) x) = upd (upd (nearOf J) a (nearOf J a ++ [(b, r)])) b (nearOf J b ++ [(a, r)]) := by
  funext x
  rw [nearOf_snoc]
  unfold seenBy
  by_cases hb : x = b
  · subst hb
    rw [upd_at, if_neg hab, if_pos rfl]
    rfl
  · rw [upd_far _ _ hb]
    by_cases ha : x = a
    · subst ha
      rw [upd_at, if_pos rfl, if_neg (fun e => hab e.symm), List.append_nil]
    · rw [upd_far _ _ ha, if_neg (fun e => ha e.symm), if_neg (fun e => hb e.symm), List.append_nil, List.append_nil]
section
variable {w w' : World} {B bf bn bp m : Nat} {lj : Value} {N : Int → Value} {n : Int} {J : List Jn}
theorem FR.nears (h : FR w B bf bn bp lj N n J m) : Near w B bn m N (nearOf J) := ⟨h.near, h.rows, h.apart⟩
theorem Near.kf {m : Nat} {L : Int → List (Int × Int)} {a : Int} {v : Value} (h : Near w B bn m N L) (hbn : B ≤ bn) (hk : Kept (fun b => b = bn ∨ v.ownBlock = some b) w w') (hv : N a = v) : Kf B w w' :=
  Kf.of_kept hk fun q _ hq => by
    subst hv
    rcases hq with rfl | hq
    · obtain ⟨f, hf, _⟩ := h.map_
      exact ⟨hbn, fun cs hc => map_blk_ne hf hc rfl⟩
    · exact ⟨(clip_lt (h.rows a) q hq).1, fun cs hc => clip_blk_ne (h.rows a) hc (by decide) hq⟩
theorem join_fr {w1 W Wb Wd : World} {lj lj' : Value} {N Nb Nd : Int → Value} {L : Int → List (Int × Int)} {a b r : Int} {va vb : Value} (h : FR w1 B bf bn bp lj N n J (m + 1)) (ha : 0 ≤ a ∧ a < n) (hb : 0 ≤ b ∧ b < n) (hc : ¬ cls J a = cls J b)
    (hk : Kept (fun b => b = bf ∨ lj.ownBlock = some b) w1 W) (hf : Blk W bf 125 #[.int .i64 n, lj', .map (some bn), .map (some bp)])
    (ho : clipRow W B 161 3 lj' (J.length + 1) (J.flatMap joinCells ++ [.int .i64 a, .int .i64 b, .int .i64 r])) (hN : Near W B bn (m + 1) N (nearOf J))
    (hka : Kept (fun b => b = bn ∨ va.ownBlock = some b) W Wb) (hNb : Near Wb B bn (m + 1 + 1) Nb L) (hkb : Kept (fun b => b = bn ∨ vb.ownBlock = some b) Wb Wd)
    (hNd : Near Wd B bn (m + 1 + 1 + 1) Nd (fun x => nearOf (J ++ [⟨a, b, r⟩]) x)) (hva : N a = va) (hvb : Nb b = vb) : FR Wd B bf bn bp lj' Nd n (J ++ [⟨a, b, r⟩]) (m + 3) := by
  subst hva hvb
  obtain ⟨fn, hfn, _⟩ := hN.map_
  obtain ⟨fm, hfm, _⟩ := hNb.map_
  have hfb : Blk Wb bf 125 #[.int .i64 n, lj', .map (some bn), .map (some bp)] := hf.kept hka (by
    rintro (e | e)
    · exact map_blk_ne hfn hf e.symm
    · exact clip_blk_ne (hN.rows a) hf (by decide) e)
  have hfd : Blk Wd bf 125 #[.int .i64 n, lj', .map (some bn), .map (some bp)] := hfb.kept hkb (by
    rintro (e | e)
    · exact map_blk_ne hfm hfb e.symm
    · exact clip_blk_ne (hNb.rows b) hfb (by decide) e)
  have hob := clip_kept ho hka (by
    rintro g hg (e | e)
    · exact map_clip_ne hfn ho (e ▸ hg)
    · exact clip_clip_ne ho (hN.rows a) (by decide) hg e)
  have hod := clip_kept hob hkb (by
    rintro g hg (e | e)
    · exact map_clip_ne hfm hob (e ▸ hg)
    · exact clip_clip_ne hob (hNb.rows b) (by decide) hg e)
  obtain ⟨q, hq, hq2⟩ := h.pairs
  have hqW := hq.kept hk (by
    rintro (e | e)
    · exact map_blk_ne hq h.blk e
    · exact map_clip_ne hq h.own e)
  have hqb := hqW.kept hka (by
    rintro (e | e)
    · exact h.ne e.symm
    · exact map_clip_ne hqW (hN.rows a) e)
  have hqd := hqb.kept hkb (by
    rintro (e | e)
    · exact h.ne e.symm
    · exact map_clip_ne hqb (hNb.rows b) e)
  have hfine := h.fine.join a b r
  have hj : joinM n J a b r = J ++ [⟨a, b, r⟩] := if_pos ⟨ha, hb, hc⟩
  rw [hj] at hfine
  have hlen := h.len
  exact { blk := hfd, own := by
            rw [List.length_append, List.length_singleton, List.flatMap_append]
            simpa [joinCells] using hod, near := hNd.map_, rows := hNd.rows, apart := hNd.apart,
          pairs := ⟨q, hqd.mono (by omega), fun x y => (hq2 x y).imp id fun ⟨e, c⟩ => ⟨e, c.mono fun j hj => List.mem_append_left _ hj⟩⟩, hbf := h.hbf, hbn := h.hbn, hbp := h.hbp, ne := h.ne, fine := hfine, h0 := h.h0, hn := h.hn,
          len := by rw [List.length_append, List.length_singleton]; omega }
def joinsM (n : Int) (J : List Jn) (a b : Int) : Bool := decide ((0 ≤ a ∧ a < n) ∧ (0 ≤ b ∧ b < n) ∧ ¬ cls J a = cls J b)
def joinE (n : Int) (a b : Int) : Int := if (0 ≤ a ∧ a < n) ∧ (0 ≤ b ∧ b < n) then 0 else 2
theorem join_info : (Tryz.prog.info? 161).map (fun i => (i.zero, i.size, i.bytes)) = some (some (.agg #[.int .i64 0, .int .i64 0, .int .i64 0]), 3, 24) := by kernel_rfl
theorem edge_info : (Tryz.prog.info? 152).map (fun i => (i.zero, i.size, i.bytes)) = some (some (.agg #[.int .i64 0, .int .i64 0]), 2, 16) := by kernel_rfl
theorem join_out (h : FR w B bf bn bp lj N n J m) (a b r : Int) (hab : ¬ ((0 ≤ a ∧ a < n) ∧ (0 ≤ b ∧ b < n))) :
    Calls Tryz.prog 87 #[.pointer (some ⟨bf, 0, none⟩), .int .i64 a, .int .i64 b, .int .i64 r] w fun e w' => e = .returned (.tuple #[.bool false, .int .i64 2]) ∧ w = w' := by
  have H := Lib.hid h
  clear h
  by_cases hx : 0 ≤ a ∧ a < n
  · have hy : ¬ (0 ≤ b ∧ b < n) := fun hy => hab ⟨hx, hy⟩
    have d1 : decide (0 ≤ a ∧ a < n) = true := decide_eq_true hx
    have d2 : decide (0 ≤ b ∧ b < n) = false := decide_eq_false hy
    clear hx hy hab
    go_enter Tryz.func87, Tryz.ntmps87
    go_wp2_with fail
    refine (is_ok H.out _).mono ?_
    rintro e w1 ⟨rfl, rfl⟩
    rw [d1]
    go_wp2_with fail
    refine (is_ok H.out _).mono ?_
    rintro e w1 ⟨rfl, rfl⟩
    rw [d2]
    go_wp2_with fail
    go_ret2
    exact ⟨rfl, rfl⟩
  · have d1 : decide (0 ≤ a ∧ a < n) = false := decide_eq_false hx
    clear hx hab
    go_enter Tryz.func87, Tryz.ntmps87
    go_wp2_with fail
    refine (is_ok H.out _).mono ?_
    rintro e w1 ⟨rfl, rfl⟩
    rw [d1]
    go_wp2_with fail
    go_ret2
    exact ⟨rfl, rfl⟩
theorem join_one (h : FR w B bf bn bp lj N n J m) (hm : m ≤ 1000000) (a b r : Int) (ha : 0 ≤ a ∧ a < n) (hb : 0 ≤ b ∧ b < n) (hc : cls J a = cls J b) :
    Calls Tryz.prog 87 #[.pointer (some ⟨bf, 0, none⟩), .int .i64 a, .int .i64 b, .int .i64 r] w fun e w' => e = .returned (.tuple #[.bool false, .int .i64 0]) ∧ FR w' B bf bn bp lj N n J (m + 1) ∧ Kept (Foot bf bn bp lj N) w w' := by
  have H := Lib.hid h
  have d1 : decide (0 ≤ a ∧ a < n) = true := decide_eq_true ha
  have d2 : decide (0 ≤ b ∧ b < n) = true := decide_eq_true hb
  have d3 : oneM n J a b = true := decide_eq_true ⟨ha, hb, hc⟩
  clear h ha hb hc
  go_enter Tryz.func87, Tryz.ntmps87
  go_wp2_with fail
  refine (is_ok H.out _).mono ?_
  rintro e w1 ⟨rfl, rfl⟩
  rw [d1]
  go_wp2_with fail
  refine (is_ok H.out _).mono ?_
  rintro e w1 ⟨rfl, rfl⟩
  rw [d2]
  go_wp2_with fail
  refine (one_ok H.out hm _ _).mono ?_
  rintro e w1 ⟨rfl, h1, hk⟩
  rw [d3]
  have K1 := Lib.hid hk
  have H1 := Lib.hid h1
  clear h1 hk
  go_wp2_with fail
  go_ret2
  exact ⟨rfl, H1.out, K1.out.mono fun b _ hb => .inr (.inr (.inl hb))⟩
set_option maxRecDepth 100000 in
set_option maxHeartbeats 2000000 in
theorem join_new (h : FR w B bf bn bp lj N n J m) (hm : m ≤ 1000000) (a b r : Int) (ha : 0 ≤ a ∧ a < n) (hb : 0 ≤ b ∧ b < n) (hc : ¬ cls J a = cls J b) :
    Calls Tryz.prog 87 #[.pointer (some ⟨bf, 0, none⟩), .int .i64 a, .int .i64 b, .int .i64 r] w fun e w' => ∃ lj' N', e = .returned (.tuple #[.bool true, .int .i64 0]) ∧ FR w' B bf bn bp lj' N' n (J ++ [⟨a, b, r⟩]) (m + 3) ∧ Kept (Foot bf bn bp lj N) w w' ∧ ∀ b, Foot bf bn bp lj' N' b → Foot bf bn bp lj N b ∨ w.heap.size ≤ b := by
  have H := Lib.hid h
  have d1 : decide (0 ≤ a ∧ a < n) = true := decide_eq_true ha
  have d2 : decide (0 ≤ b ∧ b < n) = true := decide_eq_true hb
  have d3 : oneM n J a b = false := decide_eq_false fun hh => hc hh.2.2
  have Hc := Lib.hid hc
  have Ha := Lib.hid ha
  have Hb := Lib.hid hb
  clear h ha hb hc
  go_enter Tryz.func87, Tryz.ntmps87
  go_wp2_with fail
  refine (is_ok H.out _).mono ?_
  rintro e w1 ⟨rfl, rfl⟩
  rw [d1]
  go_wp2_with fail
  refine (is_ok H.out _).mono ?_
  rintro e w1 ⟨rfl, rfl⟩
  rw [d2]
  go_wp2_with fail
  refine (one_ok H.out hm _ _).mono ?_
  rintro e w1 ⟨rfl, h1, hk⟩
  rw [d3]
  have K1 : Hid (Kept (Foot bf bn bp lj N) w w1) := Lib.hid (hk.mono fun b _ hb => .inr (.inr (.inl hb)))
  have H1 := Lib.hid h1
  have hlen := h1.len
  have hbf := h1.blk.lt
  have c1 := h1.blk.cell 1
  have f1 := h1.blk.frozen 1
  have hBf := h1.hbf
  simp only [List.getElem?_toArray, List.getElem?_cons_zero, List.getElem?_cons_succ] at c1
  have h1c : Hid (∀ u ∈ (#[.int .i64 a, .int .i64 b, .int .i64 r] : Array Value).toList, u.oneCell' = true) := Lib.hid (by simp [Value.oneCell'])
  obtain ⟨i0, hi, hz0, hz1, hz2⟩ := info_parts join_info
  obtain ⟨A, cap, hlj⟩ := clip_slice h1.own
  subst hlj
  have hne1 : ¬ some bf = (Value.slice A J.length cap).ownBlock := fun e => clip_blk_ne h1.own h1.blk (by decide) e.symm
  clear h1 hk
  go_upto_region 7 with (fail)
  go_wp2_with (at_builtin; refine clip_push _ rfl (.tmp 33) (.tmp 38) 123 rfl B 161 i0 (.agg #[.int .i64 0, .int .i64 0, .int .i64 0]) 3 24 Tryz.underlying123 hi hz0 hz1 hz2 rfl (by decide) (.slice A J.length cap) J.length _ rfl (clip_kept H1.out.own ((Kept.refl (fun _ => False) _).alloc _) (fun _ _ => id)) w1.heap.size #[.int .i64 a, .int .i64 b, .int .i64 r] rfl (Blk.new _ _ _) rfl h1c.out (by omega) (by omega) (by omega) (fun g2 cap2 w2 hown2 hgrow2 hat2 hlt2 => ?_)
               have b2 := (H1.out.blk.alloc (.cells #[.int .i64 a, .int .i64 b, .int .i64 r] 161)).grown hgrow2 hne1
               have e1 := b2.cell 1
               have e2 := b2.frozen 1
               simp only [List.getElem?_toArray, List.getElem?_cons_zero, List.getElem?_cons_succ] at e1
               have Hown2 := Lib.hid hown2
               have Hgrow2 := Lib.hid hgrow2
               have Hat2 := Lib.hid hat2
               clear hown2 hgrow2 hat2)
  have Kb := Lib.hid (show Kept (fun b => b = bf ∨ (Value.slice A J.length cap).ownBlock = some b) w1 (w2.setCell ⟨bf, 1, none⟩ (.slice (some ⟨g2, 0, none⟩) (J.length + 1) cap2)) from
    (((Kept.refl _ w1).alloc _).grown Hgrow2.out (fun k hk => .inl (.inr hk))).setCell (p := ⟨bf, 1, none⟩) (.inl (.inl rfl)) _)
  have Bf := Lib.hid (show Blk (w2.setCell ⟨bf, 1, none⟩ (.slice (some ⟨g2, 0, none⟩) (J.length + 1) cap2)) bf 125 #[.int .i64 n, .slice (some ⟨g2, 0, none⟩) (J.length + 1) cap2, .map (some bn), .map (some bp)] by
    have := b2.set_ 1 (.slice (some ⟨g2, 0, none⟩) (J.length + 1) cap2)
    simpa using this)
  have Oj := Lib.hid (clip_kept Hown2.out (Kept.set1 w2 bf 1 (.slice (some ⟨g2, 0, none⟩) (J.length + 1) cap2)) (fun g hg e => clip_blk_ne Hown2.out b2 (by decide) (e ▸ hg)))
  have HAj : Hid (∀ b, (Value.slice (some ⟨g2, 0, none⟩) (J.length + 1) cap2).ownBlock = some b → (Value.slice A J.length cap).ownBlock = some b ∨ w1.heap.size ≤ b) := Lib.hid fun b hb => by
    obtain rfl : g2 = b := by simpa [Value.ownBlock] using hb
    exact Hat2.out.imp id fun e => by rw [e]; simp
  clear Hown2 Hgrow2 Hat2 e1 e2 b2 c1 f1
  generalize w2.setCell ⟨bf, 1, none⟩ (.slice (some ⟨g2, 0, none⟩) (J.length + 1) cap2) = W at *
  have hNa : Near W B bn (m + 1) N (nearOf J) := H1.out.nears.keep Kb.out (by
      rintro (e | e)
      · obtain ⟨f, hf, _⟩ := H1.out.near
        exact map_blk_ne hf H1.out.blk e
      · obtain ⟨f, hf, _⟩ := H1.out.near
        exact map_clip_ne hf H1.out.own e) (by
      rintro x g hg (e | e)
      · exact clip_blk_ne (H1.out.rows x) H1.out.blk (by decide) (e ▸ hg)
      · exact clip_clip_ne H1.out.own (H1.out.rows x) (by decide) e hg)
  have c2 := Bf.out.cell 2
  simp only [List.getElem?_toArray, List.getElem?_cons_zero, List.getElem?_cons_succ] at c2
  have ha4 : 0 ≤ a ∧ a ≤ 4096 := by have := Ha.out; have := H.out.hn; omega
  have hb4 : 0 ≤ b ∧ b ≤ 4096 := by have := Hb.out; have := H.out.hn; omega
  have hab : a ≠ b := fun e => Hc.out (by rw [e])
  obtain ⟨j0, ji, jz0, jz1, jz2⟩ := info_parts edge_info
  have hNla : (nearOf J a).length ≤ 2 * J.length := near_len J a
  have hNlb : (nearOf J b).length ≤ 2 * J.length := near_len J b
  have HNE := Lib.hid (nearOf_join J a b r hab)
  have hWs : w1.heap.size ≤ W.heap.size := Kb.out.size
  have hN0a := hNa
  have Bfa := Bf
  have hLa : nearOf J a = nearOf J a := rfl
  have hLb0 : ∀ K, upd (nearOf J) a K b = nearOf J b := fun K => upd_far _ _ (fun e => hab e.symm)
  generalize hea : nearOf J a = La at *
  generalize heb : nearOf J b = Lb at *
  have Hea := Lib.hid hea
  have Heb := Lib.hid heb
  obtain ⟨A3a, cap3a, hrowa⟩ := clip_slice (hNa.rows a)
  rw [hea] at hrowa
  clear c2
  have hkaa : Kept (fun _ => False) W (W.drew.alloc (.cells #[.int .i64 b, .int .i64 r] 152)) := ((Kept.refl _ W).drew).alloc _
  have hN1a := hN0a.keep hkaa id (fun _ _ _ => id)
  have c2a := Bfa.out.cell 2
  have c2aa := (Bfa.out.alloc (.cells #[.int .i64 b, .int .i64 r] 152)).cell 2
  simp only [List.getElem?_toArray, List.getElem?_cons_zero, List.getElem?_cons_succ] at c2a c2aa
  have hl0a := (hN0a.keep ((Kept.refl (fun _ => False) W).drew) id (fun _ _ _ => id)).look a ha4
  have hl1a := hN1a.look a ha4
  rw [hrowa] at hl0a hl1a
  have hl2a : (Instr.lookup 121 (.map (some bn)) (.int .i64 a) false).run Tryz.prog (W.alloc (.cells #[.int .i64 b, .int .i64 r] 152)).drew = .ok (.slice A3a La.length cap3a) (W.alloc (.cells #[.int .i64 b, .int .i64 r] 152)).drew := hl1a
  have h2ca : Hid (∀ u ∈ (#[.int .i64 b, .int .i64 r] : Array Value).toList, u.oneCell' = true) := Lib.hid (by simp [Value.oneCell'])
  have Hraa := Lib.hid (show clipRow (W.drew.alloc (.cells #[.int .i64 b, .int .i64 r] 152)) B 152 2 (.slice A3a La.length cap3a) La.length (La.flatMap edgeCells) from by
    have := hN1a.rows a
    rw [hea, hrowa] at this
    exact this)
  have HneAa := Lib.hid (show ¬ some bf = (Value.slice A3a La.length cap3a).ownBlock from fun e => clip_blk_ne Hraa.out ((Bfa.out.drew).alloc _) (by decide) e.symm)
  have HPa := Lib.hid (show ∀ g4 cap4 w4, clipRow w4 B 152 2 (.slice (some ⟨g4, 0, none⟩) (La.length + 1) cap4) (La.length + 1) (La.flatMap edgeCells ++ [.int .i64 b, .int .i64 r]) →
      (W.drew.alloc (.cells #[.int .i64 b, .int .i64 r] 152)).grownBy w4 (Value.slice A3a La.length cap3a).ownBlock → ((Value.slice A3a La.length cap3a).ownBlock = some g4 ∨ g4 = (W.drew.alloc (.cells #[.int .i64 b, .int .i64 r] 152)).heap.size) →
      ∃ w2, (Instr.mapUpdate 121 (.map (some bn)) (.int .i64 a) (.slice (some ⟨g4, 0, none⟩) (La.length + 1) cap4)).run Tryz.prog w4 = .ok () w2 ∧ Near w2 B bn ((m + 1) + 1) (upd N a (.slice (some ⟨g4, 0, none⟩) (La.length + 1) cap4)) (upd (nearOf J) a (La ++ [(b, r)])) ∧
        Kept (fun b => b = bn ∨ (Value.slice A3a La.length cap3a).ownBlock = some b) W w2 from
    fun g4 cap4 w4 ho hg hat => by
      have := hN0a.push a ha4 (by omega) hkaa hrowa (g := g4) (cap := cap4) (w' := w4) (e := (b, r)) (by rw [hea]; exact ho) hg hat
      rw [hea] at this
      exact this)
  clear hN0a hN1a hkaa
  go_cut [57] (fun _ wc => ∃ vn, Near wc B bn ((m + 1) + 1) (upd N a vn) (upd (nearOf J) a (La ++ [(b, r)])) ∧ Kept (fun b => b = bn ∨ (Value.slice A3a La.length cap3a).ownBlock = some b) W wc ∧ ∀ q, vn.ownBlock = some q → (Value.slice A3a La.length cap3a).ownBlock = some q ∨ W.heap.size ≤ q)
  case first =>
    go_region_law (refine clip_step _ rfl (.tmp 52) (.tmp 56) 150 rfl B 152 j0 (.agg #[.int .i64 0, .int .i64 0]) 2 16 Tryz.underlying150 ji jz0 jz1 jz2 rfl (by decide) (.slice A3a La.length cap3a) La.length _ rfl Hraa.out W.heap.size #[.int .i64 b, .int .i64 r] rfl (Blk.new W _ _) rfl h2ca.out (by omega) (by omega) (by omega) (fun g4 cap4 w4 hown4 hgrow4 hat4 hlt4 => ?_); obtain ⟨w5, hrun5, hN5, hk5⟩ := HPa.out g4 cap4 w4 hown4 hgrow4 hat4; have c24 := (((Bfa.out.alloc (.cells #[.int .i64 b, .int .i64 r] 152)).drew).grown hgrow4 HneAa.out).cell 2; simp only [List.getElem?_toArray, List.getElem?_cons_zero, List.getElem?_cons_succ] at c24; have HN5 := Lib.hid hN5; have HK5 := Lib.hid hk5; have HA5 := Lib.hid hat4; clear hN5 hk5 hown4 hgrow4 hat4)
    all_goals go_wp2
    all_goals
      go_meet
      exact ⟨_, HN5.out, HK5.out, fun q hq => HA5.out.imp (fun e => e.trans (by simpa [Value.ownBlock] using hq)) fun e => by obtain rfl := (show g4 = q by simpa [Value.ownBlock] using hq); rw [e]; simp⟩
  case rest =>
    obtain ⟨va, HNb, hkb, hva⟩ := hcut
    have HVa := Lib.hid hva
    clear hva
    generalize wc = Wb at *
    have Kab := Lib.hid hkb
    have Bfb := Lib.hid (Bf.out.kept hkb (by
      rintro (e | e)
      · obtain ⟨f, hf, _⟩ := hNa.map_
        exact map_blk_ne hf Bf.out e.symm
      · exact clip_blk_ne (hrowa ▸ hea ▸ hNa.rows a) Bf.out (by decide) e))
    have hWsb : W.heap.size ≤ Wb.heap.size := hkb.size
    have hN0b := HNb
    have HNb0 := Lib.hid HNb
    have hLb : upd (nearOf J) a (La ++ [(b, r)]) b = Lb := hLb0 _
    obtain ⟨A3b, cap3b, hrowb⟩ := clip_slice (HNb.rows b)
    rw [hLb] at hrowb
    clear hkb
    have hkab : Kept (fun _ => False) Wb (Wb.drew.alloc (.cells #[.int .i64 a, .int .i64 r] 152)) := ((Kept.refl _ Wb).drew).alloc _
    have hN1b := hN0b.keep hkab id (fun _ _ _ => id)
    have c2b := Bfb.out.cell 2
    have c2ab := (Bfb.out.alloc (.cells #[.int .i64 a, .int .i64 r] 152)).cell 2
    simp only [List.getElem?_toArray, List.getElem?_cons_zero, List.getElem?_cons_succ] at c2b c2ab
    have hl0b := (hN0b.keep ((Kept.refl (fun _ => False) Wb).drew) id (fun _ _ _ => id)).look b hb4
    have hl1b := hN1b.look b hb4
    rw [hrowb] at hl0b hl1b
    have hl2b : (Instr.lookup 121 (.map (some bn)) (.int .i64 b) false).run Tryz.prog (Wb.alloc (.cells #[.int .i64 a, .int .i64 r] 152)).drew = .ok (.slice A3b Lb.length cap3b) (Wb.alloc (.cells #[.int .i64 a, .int .i64 r] 152)).drew := hl1b
    have h2cb : Hid (∀ u ∈ (#[.int .i64 a, .int .i64 r] : Array Value).toList, u.oneCell' = true) := Lib.hid (by simp [Value.oneCell'])
    have Hrab := Lib.hid (show clipRow (Wb.drew.alloc (.cells #[.int .i64 a, .int .i64 r] 152)) B 152 2 (.slice A3b Lb.length cap3b) Lb.length (Lb.flatMap edgeCells) from by
      have := hN1b.rows b
      rw [hrowb, hLb] at this
      exact this)
    have HneAb := Lib.hid (show ¬ some bf = (Value.slice A3b Lb.length cap3b).ownBlock from fun e => clip_blk_ne Hrab.out ((Bfb.out.drew).alloc _) (by decide) e.symm)
    have HPb := Lib.hid (show ∀ g4 cap4 w4, clipRow w4 B 152 2 (.slice (some ⟨g4, 0, none⟩) (Lb.length + 1) cap4) (Lb.length + 1) (Lb.flatMap edgeCells ++ [.int .i64 a, .int .i64 r]) →
        (Wb.drew.alloc (.cells #[.int .i64 a, .int .i64 r] 152)).grownBy w4 (Value.slice A3b Lb.length cap3b).ownBlock → ((Value.slice A3b Lb.length cap3b).ownBlock = some g4 ∨ g4 = (Wb.drew.alloc (.cells #[.int .i64 a, .int .i64 r] 152)).heap.size) →
        ∃ w2, (Instr.mapUpdate 121 (.map (some bn)) (.int .i64 b) (.slice (some ⟨g4, 0, none⟩) (Lb.length + 1) cap4)).run Tryz.prog w4 = .ok () w2 ∧ Near w2 B bn ((m + 1 + 1) + 1) (upd (upd N a va) b (.slice (some ⟨g4, 0, none⟩) (Lb.length + 1) cap4)) (upd (upd (nearOf J) a (La ++ [(b, r)])) b (Lb ++ [(a, r)])) ∧
          Kept (fun b => b = bn ∨ (Value.slice A3b Lb.length cap3b).ownBlock = some b) Wb w2 from
      fun g4 cap4 w4 ho hg hat => by
        have := hN0b.push b hb4 (by omega) hkab hrowb (g := g4) (cap := cap4) (w' := w4) (e := (a, r)) (by rw [hLb]; exact ho) hg hat
        rw [hLb] at this
        exact this)
    clear hN0b hN1b hkab
    go_upto_region 9 with (fail)
    go_cut [73] (fun _ wc => ∃ vn, Near wc B bn ((m + 1 + 1) + 1) (upd (upd N a va) b vn) (upd (upd (nearOf J) a (La ++ [(b, r)])) b (Lb ++ [(a, r)])) ∧ Kept (fun b => b = bn ∨ (Value.slice A3b Lb.length cap3b).ownBlock = some b) Wb wc ∧ ∀ q, vn.ownBlock = some q → (Value.slice A3b Lb.length cap3b).ownBlock = some q ∨ Wb.heap.size ≤ q)
    case first =>
      go_region_law (refine clip_step _ rfl (.tmp 68) (.tmp 72) 150 rfl B 152 j0 (.agg #[.int .i64 0, .int .i64 0]) 2 16 Tryz.underlying150 ji jz0 jz1 jz2 rfl (by decide) (.slice A3b Lb.length cap3b) Lb.length _ rfl Hrab.out Wb.heap.size #[.int .i64 a, .int .i64 r] rfl (Blk.new Wb _ _) rfl h2cb.out (by omega) (by omega) (by omega) (fun g4 cap4 w4 hown4 hgrow4 hat4 hlt4 => ?_); obtain ⟨w5, hrun5, hN5, hk5⟩ := HPb.out g4 cap4 w4 hown4 hgrow4 hat4; have c24 := (((Bfb.out.alloc (.cells #[.int .i64 a, .int .i64 r] 152)).drew).grown hgrow4 HneAb.out).cell 2; simp only [List.getElem?_toArray, List.getElem?_cons_zero, List.getElem?_cons_succ] at c24; have HN5 := Lib.hid hN5; have HK5 := Lib.hid hk5; have HA5 := Lib.hid hat4; clear hN5 hk5 hown4 hgrow4 hat4)
      all_goals go_wp2
      all_goals
        go_meet
        exact ⟨_, HN5.out, HK5.out, fun q hq => HA5.out.imp (fun e => e.trans (by simpa [Value.ownBlock] using hq)) fun e => by obtain rfl := (show g4 = q by simpa [Value.ownBlock] using hq); rw [e]; simp⟩
    case rest =>
      obtain ⟨vb, HNd, hkd, hvb⟩ := hcut
      have HVb := Lib.hid hvb
      clear hvb
      generalize wc = Wd at *
      go_wp2
      go_ret2
      have hnb : N b = .slice A3b Lb.length cap3b := by rw [← hrowb, upd_far N va (fun e => hab e.symm)]
      refine ⟨rfl, _, _, join_fr H1.out Ha.out Hb.out Hc.out Kb.out Bf.out Oj.out hNa Kab.out HNb0.out hkd (HNE.out ▸ HNd) (hrowa) (hrowb), ?_, ?_⟩
      · refine ((K1.out.trans (Kb.out.mono fun q _ hq => ?_)).trans (Kab.out.mono fun q _ hq => ?_)).trans (hkd.mono fun q _ hq => ?_)
        · exact hq.elim .inl fun e => .inr (.inr (.inr (.inl e)))
        · exact hq.elim (fun e => .inr (.inl e)) fun e => .inr (.inr (.inr (.inr ⟨a, hrowa ▸ e⟩)))
        · exact hq.elim (fun e => .inr (.inl e)) fun e => .inr (.inr (.inr (.inr ⟨b, hnb ▸ e⟩)))
      · have s1 := K1.out.size
        have s2 := Kb.out.size
        have s3 := Kab.out.size
        rintro q (e | e | e | e | ⟨x, e⟩)
        · exact .inl (.inl e)
        · exact .inl (.inr (.inl e))
        · exact .inl (.inr (.inr (.inl e)))
        · exact (HAj.out q e).imp (fun e => .inr (.inr (.inr (.inl e)))) fun e => by omega
        · by_cases hxb : x = b
          · subst hxb
            rw [upd_at] at e
            exact (HVb.out q e).imp (fun e => .inr (.inr (.inr (.inr ⟨x, hnb ▸ e⟩)))) fun e => by omega
          · rw [upd_far _ _ hxb] at e
            by_cases hxa : x = a
            · subst hxa
              rw [upd_at] at e
              exact (HVa.out q e).imp (fun e => .inr (.inr (.inr (.inr ⟨x, hrowa ▸ e⟩)))) fun e => by omega
            · rw [upd_far _ _ hxa] at e
              exact .inl (.inr (.inr (.inr (.inr ⟨x, e⟩))))
theorem join_ok (h : FR w B bf bn bp lj N n J m) (hm : m ≤ 1000000) (a b r : Int) :
    Calls Tryz.prog 87 #[.pointer (some ⟨bf, 0, none⟩), .int .i64 a, .int .i64 b, .int .i64 r] w fun e w' => ∃ lj' N', e = .returned (.tuple #[.bool (joinsM n J a b), .int .i64 (joinE n a b)]) ∧ FR w' B bf bn bp lj' N' n (joinM n J a b r) (m + 3) ∧ Kept (Foot bf bn bp lj N) w w' ∧ ∀ b, Foot bf bn bp lj' N' b → Foot bf bn bp lj N b ∨ w.heap.size ≤ b := by
  by_cases hab : (0 ≤ a ∧ a < n) ∧ (0 ≤ b ∧ b < n)
  · have hE : joinE n a b = 0 := if_pos hab
    rw [hE]
    by_cases hc : cls J a = cls J b
    · rw [show joinsM n J a b = false from decide_eq_false fun h => h.2.2 hc, show joinM n J a b r = J from if_neg fun h => h.2.2 hc]
      refine (join_one h hm a b r hab.1 hab.2 hc).mono ?_
      rintro e w' ⟨rfl, h1, h2⟩
      exact ⟨_, _, rfl, h1.mono (by omega), h2, fun _ => .inl⟩
    · rw [show joinsM n J a b = true from decide_eq_true ⟨hab.1, hab.2, hc⟩, show joinM n J a b r = J ++ [⟨a, b, r⟩] from if_pos ⟨hab.1, hab.2, hc⟩]
      exact join_new h hm a b r hab.1 hab.2 hc
  · rw [show joinE n a b = 2 from if_neg hab, show joinsM n J a b = false from decide_eq_false fun h => hab ⟨h.1, h.2.1⟩, show joinM n J a b r = J from if_neg fun h => hab ⟨h.1, h.2.1⟩]
    refine (join_out h a b r hab).mono ?_
    rintro e w' ⟨rfl, rfl⟩
    exact ⟨_, _, rfl, h.mono (by omega), Kept.refl _ _, fun _ => .inl⟩
end
end Go.Proofs.YtkapbdjobfbhhaaGreat

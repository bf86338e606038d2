/- walk's iterator. -/
import Derived.Test.YtkapbdjobfbhhaaGreatEuQ
import Derived.Test.YtkapbdjobfbhhaaGreatStillCall
import Derived.Test.YtkapbdjobfbhhaaGreatOpen
import Derived.Lib.Hide
import Derived.BigQuiet
import Derived.Deep.LoopGhost
namespace Go.Proofs.YtkapbdjobfbhhaaGreat
open Go.RowKit
open Go.Maps (Keyed)
def seenBy (j : Jn) (x : Int) : List (Int × Int) := (if j.a = x then [(j.b, j.r)] else []) ++ (if j.b = x then [(j.a, j.r)] else [])
def nearOf (J : List Jn) (x : Int) : List (Int × Int) := J.flatMap fun j => seenBy j x
theorem nearOf_snoc (J : List Jn) (j : Jn) (x : Int) : nearOf (J ++ [j]) x = nearOf J x ++ seenBy j x := by simp [nearOf]
theorem mem_near {J : List Jn} {x y r : Int} : (y, r) ∈ nearOf J x ↔ Edge J x y r := by
  unfold nearOf Edge
  rw [List.mem_flatMap]
  constructor
  · rintro ⟨j, hj, h⟩
    refine ⟨j, hj, ?_⟩
    unfold seenBy at h
    rcases List.mem_append.1 h with h | h
    · split at h
      · rename_i e
        simp at h
        exact .inl ⟨e, h.1.symm, h.2.symm⟩
      · cases h
    · split at h
      · rename_i e
        simp at h
        exact .inr ⟨e, h.1.symm, h.2.symm⟩
      · cases h
  · rintro ⟨j, hj, h⟩
    refine ⟨j, hj, ?_⟩
    unfold seenBy
    rcases h with ⟨e1, e2, e3⟩ | ⟨e1, e2, e3⟩
    · rw [if_pos e1, e2, e3]
      simp
    · rw [if_pos e1, e2, e3]
      simp
def joinCells (j : Jn) : List Value := [.int .i64 j.a, .int .i64 j.b, .int .i64 j.r]
def edgeCells (p : Int × Int) : List Value := [.int .i64 p.1, .int .i64 p.2]
theorem edgeCells_len (p : Int × Int) : (edgeCells p).length = 2 := rfl
def pairKey (x y : Int) : Value := .agg #[.int .i64 x, .int .i64 y]
structure FR (w : World) (B bf bn bp : Nat) (lj : Value) (N : Int → Value) (n : Int) (J : List Jn) (m : Nat) : Prop where
  blk : Blk w bf 125 #[.int .i64 n, lj, .map (some bn), .map (some bp)]
  own : clipRow w B 161 3 lj J.length (J.flatMap joinCells)
  near : ∃ f, MapAt Tryz.prog 3 w bn m f ∧ ∀ x, f (.int .i64 x) = some (N x) ∨ (f (.int .i64 x) = none ∧ N x = .slice none 0 0)
  rows : ∀ x, clipRow w B 152 2 (N x) (nearOf J x).length ((nearOf J x).flatMap edgeCells)
  apart : ∀ x y g, x ≠ y → (N x).ownBlock = some g → (N y).ownBlock ≠ some g
  pairs : ∃ f, MapAt Tryz.prog 136 w bp m f ∧ ∀ x y, f (pairKey x y) = none ∨ (f (pairKey x y) = some (.bool true) ∧ Conn J x y)
  hbf : B ≤ bf
  hbn : B ≤ bn
  hbp : B ≤ bp
  ne : bn ≠ bp
  fine : Fine n J
  h0 : 0 ≤ n
  hn : n ≤ 4096
  len : J.length ≤ m
theorem map_blk_ne {P : Program} {k : TypeId} {w : World} {b n g : Nat} {f : Value → Option Value} {t : TypeId} {cs : Array Value} (h : MapAt P k w b n f) (hg : Blk w g t cs) : b ≠ g := fun e => by
  obtain ⟨es, c, ho⟩ := h.obj
  exact hg.obj_ne ho (fun _ _ _ h => by cases h) e.symm
section
variable {w w' : World} {B bf bn bp m : Nat} {lj : Value} {N : Int → Value} {n : Int} {J : List Jn}
theorem FR.keep {S : Nat → Prop} (h : FR w B bf bn bp lj N n J m) (hk : Kept S w w') (h1 : ¬ S bf) (h2 : ¬ S bn) (h3 : ¬ S bp) (h4 : ∀ g, lj.ownBlock = some g → ¬ S g) (h5 : ∀ x g, (N x).ownBlock = some g → ¬ S g) : FR w' B bf bn bp lj N n J m := by
  obtain ⟨f, hf, hf2⟩ := h.near
  obtain ⟨q, hq, hq2⟩ := h.pairs
  exact { blk := h.blk.kept hk h1, own := clip_kept h.own hk h4, near := ⟨f, hf.kept hk h2, hf2⟩, rows := fun x => clip_kept (h.rows x) hk (h5 x), apart := h.apart, pairs := ⟨q, hq.kept hk h3, hq2⟩, hbf := h.hbf, hbn := h.hbn, hbp := h.hbp, ne := h.ne, fine := h.fine, h0 := h.h0, hn := h.hn, len := h.len }
theorem FR.below (h : FR w B bf bn bp lj N n J m) (hb : Below w.heap.size w w') : FR w' B bf bn bp lj N n J m :=
  h.keep (Kept.of_below (S := fun _ => False) hb) (fun h => h) (fun h => h) (fun h => h) (fun _ _ h => h) (fun _ _ _ h => h)
theorem FR.lt (h : FR w B bf bn bp lj N n J m) : bf < w.heap.size := h.blk.lt
theorem new_ok (n : Int) (h0 : 0 ≤ n) (hn : n ≤ 4096) (w : World) :
    Calls Tryz.prog 48 #[.int .i64 n] w fun e w' => ∃ bf bn bp, e = .returned (.pointer (some ⟨bf, 0, none⟩)) ∧ FR w' w.heap.size bf bn bp (.slice none 0 0) (fun _ => .slice none 0 0) n [] 0 ∧ Below w.heap.size w w' := by
  have d1 : decide (n < 0) = false := by simpa using h0
  have d2 : decide (4096 < n) = false := by simpa using hn
  have hmm := @run_makeMap Tryz.prog
  go_enter Tryz.func48, Tryz.ntmps48
  go_wp2
  go_ret
  refine ⟨w.heap.size + 1 + 1, w.heap.size, w.heap.size + 1, rfl, ?_, ((((Below.refl _ w).alloc (Nat.le_refl _) _).alloc (by simp) _).alloc (by simp; omega) _)⟩
  have hp : MapAt Tryz.prog 136 ((w.alloc (.map #[] 0)).alloc (.map #[] 0)) (w.heap.size + 1) 0 (fun _ => none) := by
    have := MapAt.made Tryz.prog 136 (w.alloc (.map #[] 0))
    rwa [World.size_alloc] at this
  exact { blk := Blk.new_at (by simp) _ _, own := clip_nil _ _ _ _, near := ⟨_, ((MapAt.made Tryz.prog 3 w).alloc _).alloc _, fun _ => .inr ⟨rfl, rfl⟩⟩, rows := fun _ => clip_nil _ _ _ _, apart := (fun _ _ _ _ h => by cases h), pairs := ⟨_, hp.alloc _, fun _ _ => .inl rfl⟩, hbf := by omega, hbn := Nat.le_refl _, hbp := by omega, ne := by omega, fine := ⟨.nil, (fun _ h => by cases h)⟩, h0 := h0, hn := hn, len := Nat.le_refl _ }
theorem is_ok (h : FR w B bf bn bp lj N n J m) (x : Int) :
    Calls Tryz.prog 51 #[.pointer (some ⟨bf, 0, none⟩), .int .i64 x] w fun e w' => e = .returned (.bool (decide (0 ≤ x ∧ x < n))) ∧ w = w' := by
  have c0 := h.blk.cell 0
  simp only [List.getElem?_toArray, List.getElem?_cons_zero] at c0
  clear h
  by_cases h0 : 0 ≤ x
  · by_cases h1 : x < n
    · have d1 : decide (0 ≤ x) = true := by simpa using h0
      have d2 : decide (x < n) = true := by simpa using h1
      rw [show decide (0 ≤ x ∧ x < n) = true by simp; omega]
      go_enter Tryz.func51, Tryz.ntmps51
      go_wp2
      go_ret
      exact ⟨rfl, rfl⟩
    · have d1 : decide (0 ≤ x) = true := by simpa using h0
      have d2 : decide (x < n) = false := by simpa using h1
      rw [show decide (0 ≤ x ∧ x < n) = false by simp; omega]
      go_enter Tryz.func51, Tryz.ntmps51
      go_wp2
      go_ret
      exact ⟨rfl, rfl⟩
  · have d1 : decide (0 ≤ x) = false := by simpa using h0
    rw [show decide (0 ≤ x ∧ x < n) = false by simp; omega]
    go_enter Tryz.func51, Tryz.ntmps51
    go_wp2
    go_ret
    exact ⟨rfl, rfl⟩
theorem walk_ok (v : Value) (x : Int) (hv : v = .pointer none ∨ ∃ a, v = .pointer (some a)) :
    Calls Tryz.prog 73 #[v, .int .i64 x] w fun e w' => e = .returned (.func (.func 88) #[] #[.pointer (some ⟨w.heap.size + 1, 0, none⟩), .pointer (some ⟨w.heap.size, 0, none⟩)]) ∧
      (w.alloc (.cells #[v] 76)).alloc (.cells #[.int .i64 x] 3) = w' := by
  rcases hv with rfl | ⟨a, rfl⟩
  · go_enter Tryz.func73, Tryz.ntmps73
    go_wp2
    go_ret
    exact ⟨rfl, rfl⟩
  · go_enter Tryz.func73, Tryz.ntmps73
    go_wp2
    go_ret
    exact ⟨rfl, rfl⟩
end
end Go.Proofs.YtkapbdjobfbhhaaGreat
namespace Go.Proofs.YtkapbdjobfbhhaaGreat
open Go.RowKit
open Go.Maps (Keyed)
theorem int_key : Keyed Tryz.prog 3 := Go.Maps.int_keyed Tryz.underlying3
theorem int_key_of {x : Int} (h0 : -9223372036854775808 ≤ x) (h1 : x ≤ 9223372036854775807) : keyOf Tryz.prog 3 (.int .i64 x) = some (.int .i64 x) :=
  Go.Maps.keyOf_int_mk Tryz.underlying3 (by simp [Lit.wf, IntKind.min, IntKind.max, IntKind.bits, IntKind.signed]; omega)
theorem zero_bool (w : World) : (zeroValue 4).run Tryz.prog w = .ok (.bool false) w := by kernel_rfl
theorem zero_edges (w : World) : (zeroValue 150).run Tryz.prog w = .ok (.slice none 0 0) w := by kernel_rfl
theorem step_info : (Tryz.prog.info? 134).map (fun i => (i.zero, i.size, i.bytes)) = some (some (.agg #[.int .i64 0, .int .i64 0, .int .i64 0]), 3, 24) := by kernel_rfl
def stpCells (s : Stp) : List Value := [.int .i64 s.node, .int .i64 s.from_, .int .i64 s.reason]
def stpVal (s : Stp) : Value := .agg #[.int .i64 s.node, .int .i64 s.from_, .int .i64 s.reason]
structure NK (w : World) (B bf bn bp : Nat) (lj : Value) (N : Int → Value) (n : Int) (J : List Jn) (m b1 b2 : Nat) (a : Int) : Prop where
  blk : Blk w bf 125 #[.int .i64 n, lj, .map (some bn), .map (some bp)]
  near : ∃ f, MapAt Tryz.prog 3 w bn m f ∧ ∀ x, f (.int .i64 x) = some (N x) ∨ (f (.int .i64 x) = none ∧ N x = .slice none 0 0)
  rows : ∀ x, clipRow w B 152 2 (N x) (nearOf J x).length ((nearOf J x).flatMap edgeCells)
  x1 : Blk w b1 3 #[.int .i64 a]
  x2 : Blk w b2 76 #[.pointer (some ⟨bf, 0, none⟩)]
def NKs (bf bn b1 b2 : Nat) (N : Int → Value) (b : Nat) : Prop := b = bf ∨ b = bn ∨ b = b1 ∨ b = b2 ∨ ∃ x, (N x).ownBlock = some b
section
variable {w w' : World} {B bf bn bp m b1 b2 : Nat} {lj : Value} {N : Int → Value} {n a : Int} {J : List Jn}
theorem NK.keep {S : Nat → Prop} (h : NK w B bf bn bp lj N n J m b1 b2 a) (hk : Kept S w w') (hS : ∀ b, b < w.heap.size → NKs bf bn b1 b2 N b → ¬ S b) : NK w' B bf bn bp lj N n J m b1 b2 a := by
  obtain ⟨f, hf, hf2⟩ := h.near
  exact ⟨h.blk.kept hk (hS _ h.blk.lt (.inl rfl)), ⟨f, hf.kept hk (hS _ hf.lt (.inr (.inl rfl))), hf2⟩, fun x => clip_kept (h.rows x) hk (fun g hg => hS _ (clip_lt (h.rows x) g hg).2 (.inr (.inr (.inr (.inr ⟨x, hg⟩))))),
    h.x1.kept hk (hS _ h.x1.lt (.inr (.inr (.inl rfl)))), h.x2.kept hk (hS _ h.x2.lt (.inr (.inr (.inr (.inl rfl)))))⟩
theorem NK.lts (h : NK w B bf bn bp lj N n J m b1 b2 a) {b : Nat} (hb : NKs bf bn b1 b2 N b) : b < w.heap.size := by
  rcases hb with rfl | rfl | rfl | rfl | ⟨x, hx⟩
  · exact h.blk.lt
  · obtain ⟨f, hf, _⟩ := h.near
    exact hf.lt
  · exact h.x1.lt
  · exact h.x2.lt
  · exact (clip_lt (h.rows x) b hx).2
def seenFn (O : List Stp) (v : Value) : Option Value := match v with
  | .int .i64 x => if x ∈ O.map Stp.node then some (.bool true) else none
  | _ => none
structure Own (w : World) (H sb : Nat) (O : List Stp) (k : Nat) (vq : Value) : Prop where
  seen : MapAt Tryz.prog 3 w sb O.length (seenFn O)
  hsb : H ≤ sb
  len : ∃ A cap, vq = .slice A (O.length - k) cap
  row : k < O.length → ∃ g off cap, vq = .slice (some ⟨g, off, none⟩) (O.length - k) cap ∧ Tail w H 134 3 g off (O.length - k) cap ((O.drop k).flatMap stpCells)
def mayT (H : Nat) (T : Nat → Prop) (W : World) (b : Nat) : Prop := (b < H ∧ T b) ∨ (H ≤ b ∧ ∃ cs, Blk W b 3 cs)
theorem Own.keep {H sb k : Nat} {O : List Stp} {vq : Value} {T : Nat → Prop} (h : Own w H sb O k vq) (hk : Kept (mayT H T w) w w') : Own w' H sb O k vq := by
  refine ⟨h.seen.kept hk ?_, h.hsb, h.len, fun hlt => ?_⟩
  · rintro (⟨hb, _⟩ | ⟨_, cs, hc⟩)
    · have := h.hsb
      omega
    · exact map_blk_ne h.seen hc rfl
  · obtain ⟨g, off, cap, hv, ht⟩ := h.row hlt
    refine ⟨g, off, cap, hv, ht.kept hk ?_⟩
    obtain ⟨cur, hcur⟩ := ht.blk
    rintro (⟨hb, _⟩ | ⟨_, cs, hc⟩)
    · have := ht.2.1
      omega
    · exact hcur.ne_ hc (by decide) rfl
end
set_option maxRecDepth 100000 in
set_option maxHeartbeats 2000000 in
theorem walk_iter (l : Nat) {B bf bn bp m b1 b2 : Nat} {lj : Value} {N : Int → Value} {n a : Int} {J : List Jn} (hF : Fine n J) (ha : 0 ≤ a ∧ a < n) (hn : n ≤ 4096) (T : Nat → Prop) (hT : ∀ b, NKs bf bn b1 b2 N b → ¬ T b)
    (w : World) (h0 : NK w B bf bn bp lj N n J m b1 b2 a) (X : List Stp → World → Prop) (Y : World → Prop) (hx0 : X [] w)
    (hX : ∀ V W W', X V W → Kept (fun b => w.heap.size ≤ b ∧ ∀ cs, ¬ Blk W b 3 cs) W W' → X V W')
    (hY : ∀ V s O k W, Seen J a O k → O.take k = V → O[k]? = some s → X V W → NK W B bf bn bp lj N n J m b1 b2 a →
      ∃ fn tmps assign body, (Instr.yield l #[stpVal s]).run Tryz.prog W = .ok (.round l fn tmps assign body) W ∧
        RoundIn Fence.wide 0 Tryz.prog l fn tmps assign body W fun e W' => Kept (mayT w.heap.size T W) W W' ∧ ((e = .returned (.bool true) ∧ X (V ++ [s]) W') ∨ (e = .returned (.bool false) ∧ Y W'))) :
    Calls Tryz.prog 88 #[.func (.yield l) #[] #[], .pointer (some ⟨b1, 0, none⟩), .pointer (some ⟨b2, 0, none⟩)] w fun e W' => e = .returned (.tuple #[]) ∧ ((∃ O, Seen J a O O.length ∧ X O W') ∨ Y W') := by
  have a0 := h0.x1.cell 0
  have a1 := h0.x2.cell 0
  have q1 := h0.x1.lt
  have q2 := h0.x2.lt
  simp only [List.getElem?_toArray, List.getElem?_cons_zero] at a0 a1
  obtain ⟨i0, hi, hz0, hz1, hz2⟩ := info_parts step_info
  have hmm := @run_makeMap Tryz.prog
  have hka := int_key_of (x := a) (by omega) (by omega)
  obtain ⟨wm, hwm, hseen, hgm⟩ := (MapAt.made Tryz.prog 3 w).store int_key Tryz.underlying148 (by unfold maxLen; omega) hka (.bool true) (g := seenFn [⟨a, -1, 0⟩]) (by simp [seenFn]) (fun x hx => by
    unfold seenFn
    split
    · rename_i y
      rw [if_neg]
      intro hy
      obtain rfl : y = a := by simpa using hy
      exact hx rfl
    · rfl)
  have km : Kept (fun b => w.heap.size ≤ b) w wm := ((Kept.refl _ w).alloc _).grown hgm (fun k hk => by injection hk with hk; exact .inr (by omega))
  have hsm : w.heap.size + 1 ≤ wm.heap.size := by have := hgm.size; simpa using this
  have n1 := h0.keep km (fun b hb hs => by have := h0.lts hs; omega)
  have m0 := n1.x1.cell 0
  simp only [List.getElem?_toArray, List.getElem?_cons_zero] at m0
  have hx1 := hX _ _ _ hx0 (km.mono (fun b hb h => by omega))
  have HX := Lib.hid hX
  have HY := Lib.hid hY
  have Hx1 := Lib.hid hx1
  have HS := Lib.hid hseen
  have HN := Lib.hid n1
  have HT := Lib.hid hT
  have HF := Lib.hid hF
  have HL : Hid (∀ b, NKs bf bn b1 b2 N b → b < w.heap.size) := Lib.hid fun b hb => h0.lts hb
  clear hX hY hx0 hx1 hseen n1 hT hgm hka h0
  go_enter Tryz.func88, Tryz.ntmps88
  go_wp2
  go_loopg [5] 5000 (fun gk vq wr => ∃ (O : List Stp) (k : Nat), gk + k = 5000 ∧ Seen J a O k ∧ Own wr w.heap.size w.heap.size O k vq ∧ X (O.take k) wr ∧ NK wr B bf bn bp lj N n J m b1 b2 a ∧ w.heap.size + 1 ≤ wr.heap.size)
  case atStart =>
    refine ⟨_, 0, rfl, Seen.start J a, ⟨HS.out.alloc _, Nat.le_refl _, ⟨_, _, rfl⟩, fun _ => ⟨_, _, _, rfl, ?_⟩⟩, ?_, ?_, ?_⟩
    · exact Tail.fresh _ _ _ 3 _ _ (Blk.new _ _ _) rfl (by omega)
    · exact HX.out _ _ _ Hx1.out ((Kept.refl _ wm).alloc _)
    · exact HN.out.keep ((Kept.refl (fun _ => False) wm).alloc _) (fun _ _ _ h => h)
    · simp
      omega
  case round =>
    obtain ⟨O, k, hgk, hs, ho, hx, hnk, hsz⟩ := hrel
    have hbd := hs.bound HF.out ha
    have hkl := hs.le
    by_cases hlt : k < O.length
    · obtain ⟨g, off, cap, rfl, ht⟩ := ho.row hlt
      obtain ⟨r, hr⟩ : ∃ r, O.length - k = r + 1 := ⟨O.length - k - 1, by omega⟩
      have hOk : O[k]? = some O[k] := List.getElem?_eq_getElem hlt
      have hdr : O.drop k = O[k] :: O.drop (k + 1) := List.drop_eq_getElem_cons hlt
      rw [hr] at ht ⊢
      have f0 : wr.cell? ⟨g, off, none⟩ = some (.int .i64 O[k].node) := by
        have := ht.cell (j := 0) (by omega)
        rw [hdr] at this
        exact this
      have f1 : wr.cell? ⟨g, off + 1, none⟩ = some (.int .i64 O[k].from_) := by
        have := ht.cell (j := 1) (by omega)
        rw [hdr] at this
        exact this
      have f2 : wr.cell? ⟨g, off + 2, none⟩ = some (.int .i64 O[k].reason) := by
        have := ht.cell (j := 2) (by omega)
        rw [hdr] at this
        exact this
      have HR := Lib.hid (HY.out (O.take k) O[k] O k wr hs rfl hOk hx hnk)
      have Hs := Lib.hid hs
      have Ho := Lib.hid ho
      have Ht := Lib.hid ht
      have Hnk := Lib.hid hnk
      have Hdr := Lib.hid hdr
      have HOk := Lib.hid hOk
      have Hrest := Lib.hid (And.intro hgk (And.intro hbd (And.intro hkl (And.intro hlt hr))))
      have hr0 : r ≤ 4096 := by omega
      generalize O[k] = s at *
      clear hs ho hx hnk hdr hOk hgk hbd hkl hlt hr ht
      go_upto_region 4 with (fail)
      obtain ⟨fn, tmps, assign, body, hyield, hround⟩ := HR.out
      clear HR
      unfold stpVal at hyield
      refine (wpIn_wide (n := 1)).1 ?_
      gi_wp2
      refine hround.mono ?_
      rintro e W5 ⟨hk5, (⟨rfl, hx5⟩ | ⟨rfl, hy5⟩)⟩
      · have hs5 := hk5.size
        have ho5 := Ho.out.keep hk5
        have hn5 := Hnk.out.keep hk5 (by
          rintro b hb hs (⟨_, ht⟩ | ⟨hge, _⟩)
          · exact HT.out b hs ht
          · have := HL.out b hs
            omega)
        have ht5 := Ht.out.kept hk5 (by
          obtain ⟨cur, hcur⟩ := Ht.out.blk
          rintro (⟨hb, _⟩ | ⟨_, cs, hc⟩)
          · have := Ht.out.2.1
            omega
          · exact hcur.ne_ hc (by decide) rfl)
        have e0 : W5.cell? ⟨g, off, none⟩ = some (.int .i64 s.node) := by
          have := ht5.cell (j := 0) (by omega)
          rw [Hdr.out] at this
          exact this
        have e2 := hn5.x2.cell 0
        have e3 := hn5.blk.cell 2
        simp only [List.getElem?_toArray, List.getElem?_cons_zero, List.getElem?_cons_succ] at e2 e3
        have hsn := (Hs.out.nodes HF.out ha) s (List.mem_of_getElem? HOk.out)
        obtain ⟨nf, hnf, hnf2⟩ := hn5.near
        have hlook : (Instr.lookup 121 (.map (some bn)) (.int .i64 s.node) false).run Tryz.prog W5 = .ok (N s.node) W5 := by
          rw [hnf.look int_key Tryz.underlying121 (zero_edges W5) (int_key_of (by omega) (by omega)) false]
          rcases hnf2 s.node with h | ⟨h, h2⟩
          · rw [h]
            rfl
          · rw [h, h2]
            rfl
        obtain ⟨An, cn, hNs⟩ := clip_slice (hn5.rows s.node)
        have hEl := clip_len (hn5.rows s.node)
        rw [hNs] at hlook
        have Ho5 := Lib.hid ho5
        have Hn5 := Lib.hid hn5
        have Hx5 := Lib.hid hx5
        have Ht5 := Lib.hid ht5
        have HNs := Lib.hid hNs
        have Hsn := Lib.hid hsn
        clear ho5 hn5 hx5 ht5 hNs hsn hnf hnf2 hround hyield
        generalize hd : nearOf J s.node = E at *
        have HD := Lib.hid hd
        clear hd
        gi_wp2
        go_wp2
        go_loopw [37, 5] (fun i vq wr => ∃ (q : Nat) (O' : List Stp), q ≤ E.length ∧ i = .int .i64 q ∧ (∃ Z, O' = O ++ Z) ∧ Seen J a O' k ∧ (∀ p ∈ E.take q, p.1 ∈ O'.map Stp.node) ∧
          (∃ g off cap r, vq = .slice (some ⟨g, off, none⟩) (r + 1) cap ∧ O'.length - k = r + 1 ∧ Tail wr w.heap.size 134 3 g off (r + 1) cap ((O'.drop k).flatMap stpCells)) ∧
          MapAt Tryz.prog 3 wr w.heap.size O'.length (seenFn O') ∧ Kept (fun b => w.heap.size ≤ b ∧ ∀ cs, ¬ Blk W5 b 3 cs) W5 wr) (fun i _ _ => E.length - (intOf i).toNat)
        case atStart =>
          exact ⟨0, O, Nat.zero_le _, rfl, ⟨[], by simp⟩, Hs.out, by simp, ⟨g, off, cap, r, rfl, Hrest.out.2.2.2.2, Ht5.out⟩, Ho5.out.seen, Kept.refl _ _⟩
        case round =>
          obtain ⟨q, O', hq, rfl, hZ, hs', hdone, ⟨g2, off2, cap2, r2, rfl, hr2, ht2⟩, hsn', hk'⟩ := hrel
          have hbd' := hs'.bound HF.out ha
          have hsz' := hk'.size
          have hr2b : r2 ≤ 4096 := by omega
          by_cases hlt2 : q < E.length
          · have hrow := (Hn5.out.keep hk' (fun b hb hs h => by have := HL.out b hs; omega)).rows s.node
            rw [HD.out, HNs.out] at hrow
            obtain ⟨ge, ce, hve, _⟩ := clip_form hrow (by omega)
            injection hve with hv1 hv2 hv3
            subst hv1 hv3
            have p0 := clip_cell edgeCells edgeCells_len hrow hlt2 (j := 0) (by omega)
            have p1 := clip_cell edgeCells edgeCells_len hrow hlt2 (j := 1) (by omega)
            simp only [edgeCells, List.getElem?_cons_zero, List.getElem?_cons_succ, Nat.add_zero] at p0 p1
            have hE : Edge J s.node E[q].1 E[q].2 := mem_near.1 (by rw [HD.out]; exact List.getElem_mem _)
            have hny := (hE.nodes HF.out).2
            have hkey := int_key_of (x := E[q].1) (by omega) (by omega)
            have hfirst : ∀ p ∈ E.take (q + 1), p.1 ∈ (O'.map Stp.node) ∨ p = E[q] := by
              intro p hp
              rw [List.take_succ_eq_append_getElem hlt2] at hp
              rcases List.mem_append.1 hp with hp | hp
              · exact .inl (hdone p hp)
              · exact .inr (List.mem_singleton.1 hp)
            generalize E[q] = pe at *
            obtain ⟨y, rr⟩ := pe
            simp only [] at p0 p1 hE hny hkey
            have hlook2 := (hsn'.alloc (.cells #[.int .i64 y, .int .i64 rr] 152)).look int_key Tryz.underlying148 (zero_bool _) hkey false
            have hbox : Blk (wr.alloc (.cells #[.int .i64 y, .int .i64 rr] 152)) wr.heap.size 152 #[.int .i64 y, .int .i64 rr] := Blk.new _ _ _
            have Hs' := Lib.hid hs'
            have Ht2 := Lib.hid ht2
            have Hk' := Lib.hid hk'
            have Hsn' := Lib.hid hsn'
            have Hdone := Lib.hid hdone
            have Hfirst := Lib.hid hfirst
            have HZ := Lib.hid hZ
            have Hr2 := Lib.hid hr2
            have HE := Lib.hid hE
            have Hkey := Lib.hid hkey
            clear hs' ht2 hk' hsn' hdone hfirst hZ hr2 hE hkey hrow hv2
            by_cases hy : y ∈ O'.map Stp.node
            · have hfn : seenFn O' (.int .i64 y) = some (.bool true) := if_pos hy
              rw [hfn] at hlook2
              simp only [Bool.false_eq_true, if_false] at hlook2
              have Hy := Lib.hid hy
              clear hy hfn
              go_wp2
              refine ⟨⟨q + 1, O', by omega, by go_num, HZ.out, Hs'.out, ?_, ⟨_, _, _, _, rfl, Hr2.out, Ht2.out.alloc _⟩, Hsn'.out.alloc _, Hk'.out.alloc _⟩, by simp [intOf]; omega⟩
              intro p hp
              rcases Hfirst.out p hp with h | rfl
              · exact h
              · exact Hy.out
            · have hfn : seenFn O' (.int .i64 y) = none := if_neg hy
              rw [hfn] at hlook2
              simp only [Bool.false_eq_true, if_false] at hlook2
              obtain ⟨w2, hst, hseen2, hg2⟩ := (Hsn'.out.alloc (.cells #[.int .i64 y, .int .i64 rr] 152)).store int_key Tryz.underlying148 (by unfold maxLen; omega) Hkey.out (.bool true) (g := seenFn (O' ++ [⟨y, s.node, rr⟩])) (by simp [seenFn]) (fun x hx => by
                unfold seenFn
                split
                · rename_i z
                  have hzy : z ≠ y := fun e => hx (by rw [e])
                  simp [hzy]
                · rfl)
              have hb2 := hbox.grown hg2 (fun e => by injection e with e; omega)
              have d0 := hb2.cell 0
              have d1 := hb2.cell 1
              simp only [List.getElem?_toArray, List.getElem?_cons_zero, List.getElem?_cons_succ] at d0 d1
              have hls := hg2.size
              have hlb := hb2.lt
              rw [World.size_alloc] at hls
              have ht3 := Lib.hid ((Ht2.out.alloc (.cells #[.int .i64 y, .int .i64 rr] 152)).same (hg2.block g2 (by rw [World.size_alloc]; have := Ht2.out.lt; omega) (fun e => by
                obtain ⟨cur, hcur⟩ := Ht2.out.blk
                injection e with e
                exact map_blk_ne Hsn'.out hcur e.symm)))
              have Hseen2 := Lib.hid hseen2
              have Hg2 := Lib.hid hg2
              have Hy := Lib.hid hy
              have h1c : Hid (∀ u ∈ (#[.int .i64 y, .int .i64 s.node, .int .i64 rr] : Array Value).toList, u.oneCell' = true) := Lib.hid (by simp [Value.oneCell'])
              clear hy hfn hseen2 hg2 hb2
              go_wp2_with (at_builtin; refine tail_push (ht3.out.alloc _) rfl (.tmp 49) (.tmp 56) 149 rfl i0 (.agg #[.int .i64 0, .int .i64 0, .int .i64 0]) 24 Tryz.underlying149 hi hz0 hz1 hz2 rfl rfl w2.heap.size #[.int .i64 y, .int .i64 s.node, .int .i64 rr] rfl (Blk.new _ _ _) rfl h1c.out (by omega) (by omega) (by simp; omega) (fun g4 off4 cap4 w4 ht4 hg4 hat4 => ?_))
              have hkO : k ≤ O'.length := by have := Hr2.out; omega
              have hdrop : (O' ++ [(⟨y, s.node, rr⟩ : Stp)]).drop k = O'.drop k ++ [⟨y, s.node, rr⟩] := List.drop_append_of_le_length hkO
              have hOk' : O'[k]? = some s := by
                obtain ⟨Z, hZ⟩ := HZ.out
                rw [hZ, List.getElem?_append_left Hrest.out.2.2.2.1]
                exact HOk.out
              obtain ⟨cur2, hcur2⟩ := Ht2.out.blk
              refine ⟨⟨q + 1, O' ++ [⟨y, s.node, rr⟩], by omega, by go_num, ?_, Hs'.out.push hOk' HE.out Hy.out, ?_, ⟨g4, off4, cap4, r2 + 1, rfl, ?_, ?_⟩, ?_, ?_⟩, by simp [intOf]; omega⟩
              · obtain ⟨Z, hZ⟩ := HZ.out
                exact ⟨Z ++ [⟨y, s.node, rr⟩], by rw [hZ, List.append_assoc]⟩
              · intro p hp
                rw [List.map_append]
                rcases Hfirst.out p hp with h | rfl
                · exact List.mem_append_left _ h
                · exact List.mem_append_right _ (by simp)
              · have := Hr2.out
                rw [List.length_append, List.length_singleton]
                omega
              · rw [hdrop, List.flatMap_append]
                exact ht4
              · rw [List.length_append, List.length_singleton]
                exact (Hseen2.out.alloc _).grown hg4 (fun e => by
                  injection e with e
                  exact map_blk_ne Hsn'.out hcur2 e)
              · have k1 := (Hk'.out.alloc (.cells #[.int .i64 y, .int .i64 rr] 152)).grown Hg2.out (fun b hb => by
                  injection hb with hb
                  subst hb
                  exact .inl ⟨Nat.le_refl _, fun cs hc => map_blk_ne Ho5.out.seen hc rfl⟩)
                refine (k1.alloc _).grown hg4 (fun b hb => ?_)
                injection hb with hb
                subst hb
                refine .inl ⟨Ht2.out.2.1, fun cs hc => ?_⟩
                have hc2 := hc.kept Hk'.out (fun h => h.2 cs hc)
                exact hcur2.ne_ hc2 (by decide) rfl
          · obtain rfl : q = E.length := by omega
            rw [List.take_length] at hdone
            have hn' := Hn5.out.keep hk' (fun b hb hs h => by have := HL.out b hs; omega)
            have hx' := HX.out _ _ _ Hx5.out hk'
            obtain ⟨Z, hZ⟩ := hZ
            have htk : O'.take (k + 1) = O.take k ++ [s] := by
              rw [hZ, List.take_append_of_le_length (by have := Hrest.out.2.2.2.1; omega), List.take_add_one, HOk.out]
              rfl
            rw [← htk] at hx'
            have hOk' : O'[k]? = some s := by
              rw [hZ, List.getElem?_append_left Hrest.out.2.2.2.1]
              exact HOk.out
            have hs2 := hs'.next hOk' (fun y r he => by
              have := hdone (y, r) (by rw [← HD.out]; exact mem_near.2 he)
              exact this)
            obtain ⟨c2, hc2⟩ : ∃ c, cap2 = c + 1 := ⟨cap2 - 1, by have := ht2.2.2.1; omega⟩
            subst hc2
            have hcap2 := ht2.2.2.1
            have hflat : Hid (((O'.drop k).flatMap stpCells).drop 3 = (O'.drop (k + 1)).flatMap stpCells) := by
              apply Lib.hid
              obtain ⟨hlt', he'⟩ := List.getElem?_eq_some_iff.1 hOk'
              rw [List.drop_eq_getElem_cons hlt', he', List.flatMap_cons]
              rfl
            have Hx' := Lib.hid hx'
            have Hn' := Lib.hid hn'
            have Hs2 := Lib.hid hs2
            have Ht2 := Lib.hid ht2
            have Hsn' := Lib.hid hsn'
            have Hr2 := Lib.hid hr2
            clear hx' hn' hs2 ht2 hsn' hr2 hs' hk' hdone hZ htk hOk'
            have hkk := Hrest.out
            go_wp2
            all_goals
              go_roundg (gk - 1)
              case measure =>
                omega
              case rel =>
                have hr5 := Hr2.out
                refine ⟨O', k + 1, by omega, Hs2.out, ⟨Hsn'.out, Nat.le_refl _, ⟨_, _, by rw [show O'.length - (k + 1) = r2 by omega]⟩, fun hlt5 => ?_⟩, Hx'.out, Hn'.out, by omega⟩
                rw [show O'.length - (k + 1) = r2 by omega]
                first
                  | (refine ⟨g2, off2 + 3, c2, rfl, ?_⟩
                     have := Ht2.out.shift
                     rw [hflat.out] at this
                     exact this)
                  | (exfalso
                     omega)
      · have Hy5 := Lib.hid hy5
        clear hy5 hround hyield
        gi_wp2
        go_wp2
        exact bodyPost_ret (results_none rfl _ _ _) rfl ⟨rfl, .inr Hy5.out⟩
    · obtain ⟨A, cap, hvq⟩ := ho.len
      have hk0 : O.length - k = 0 := by omega
      rw [hk0] at hvq
      subst hvq
      have hkk : k = O.length := by omega
      have Hs := Lib.hid hs
      have Hx := Lib.hid hx
      have Hkk := Lib.hid hkk
      clear hs hx ho hnk hk0 hkk hlt hkl hbd hgk
      go_wp2
      go_end0
      refine ⟨rfl, .inl ⟨O, ?_, ?_⟩⟩
      · have := Hs.out
        rwa [Hkk.out] at this
      · have := Hx.out
        rwa [Hkk.out, List.take_length] at this
end Go.Proofs.YtkapbdjobfbhhaaGreat

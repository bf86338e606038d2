/- The plain law's side of layer 22: joins, paths, and that there is one path in a forest. -/
namespace Go.Proofs.YtlipnnibagidiaaGreat

structure Jn where
  a : Int
  b : Int
  r : Int

/-- A join, as seen from one of its two. -/
def Jn.sees (j : Jn) (x y r : Int) : Prop := (j.a = x ∧ j.b = y ∧ j.r = r) ∨ (j.b = x ∧ j.a = y ∧ j.r = r)
def Edge (J : List Jn) (x y r : Int) : Prop := ∃ j ∈ J, j.sees x y r

theorem Jn.sees.symm {j : Jn} {x y r : Int} (h : j.sees x y r) : j.sees y x r := by
  rcases h with ⟨h1, h2, h3⟩ | ⟨h1, h2, h3⟩
  · exact .inr ⟨h2, h1, h3⟩
  · exact .inl ⟨h2, h1, h3⟩
theorem Edge.symm {J : List Jn} {x y r : Int} (h : Edge J x y r) : Edge J y x r := by
  obtain ⟨j, hj, h⟩ := h
  exact ⟨j, hj, h.symm⟩
theorem Edge.mono {J J' : List Jn} {x y r : Int} (h : Edge J x y r) (hs : ∀ j ∈ J, j ∈ J') : Edge J' x y r := by
  obtain ⟨j, hj, h⟩ := h
  exact ⟨j, hs j hj, h⟩
theorem edge_snoc {J : List Jn} {j : Jn} {x y r : Int} (h : Edge (J ++ [j]) x y r) : Edge J x y r ∨ j.sees x y r := by
  obtain ⟨i, hi, h⟩ := h
  rcases List.mem_append.1 hi with hi | hi
  · exact .inl ⟨i, hi, h⟩
  · obtain rfl : i = j := by simpa using hi
    exact .inr h

inductive Conn (J : List Jn) : Int → Int → Prop
  | refl (x : Int) : Conn J x x
  | step {x y z r : Int} : Edge J x y r → Conn J y z → Conn J x z
theorem Conn.trans {J : List Jn} {x y z : Int} (h : Conn J x y) (k : Conn J y z) : Conn J x z := by
  induction h with
  | refl => exact k
  | step e _ ih => exact .step e (ih k)
theorem Conn.symm {J : List Jn} {x y : Int} (h : Conn J x y) : Conn J y x := by
  induction h with
  | refl => exact .refl _
  | step e _ ih => exact ih.trans (.step e.symm (.refl _))
theorem Conn.mono {J J' : List Jn} {x y : Int} (h : Conn J x y) (hs : ∀ j ∈ J, j ∈ J') : Conn J' x y := by
  induction h with
  | refl => exact .refl _
  | step e _ ih => exact .step (e.mono hs) ih

/-- A path that comes to no node twice: its nodes, its reasons. -/
inductive Path (J : List Jn) : Int → Int → List Int → List Int → Prop
  | nil (x : Int) : Path J x x [x] []
  | cons {x y z r : Int} {ns rs : List Int} : Edge J x y r → Path J y z ns rs → x ∉ ns → Path J x z (x :: ns) (r :: rs)
theorem Path.conn {J : List Jn} {x y : Int} {ns rs : List Int} (h : Path J x y ns rs) : Conn J x y := by
  induction h with
  | nil => exact .refl _
  | cons e _ _ ih => exact .step e ih
theorem Path.mono {J J' : List Jn} {x y : Int} {ns rs : List Int} (h : Path J x y ns rs) (hs : ∀ j ∈ J, j ∈ J') : Path J' x y ns rs := by
  induction h with
  | nil => exact .nil _
  | cons e _ hn ih => exact .cons (e.mono hs) ih hn
theorem Path.start {J : List Jn} {x y : Int} {ns rs : List Int} (h : Path J x y ns rs) : x ∈ ns := by
  cases h <;> simp
theorem Path.stop {J : List Jn} {x y : Int} {ns rs : List Int} (h : Path J x y ns rs) : y ∈ ns := by
  induction h with
  | nil => simp
  | cons _ _ _ ih => exact List.mem_cons_of_mem _ ih

/-- The new join is on a path once, or not at all. -/
theorem Path.parts {J : List Jn} {j : Jn} {x y : Int} {ns rs : List Int} (h : Path (J ++ [j]) x y ns rs) :
    Path J x y ns rs ∨ ∃ u v ns1 ns2 rs1 rs2, j.sees u v j.r ∧ Path J x u ns1 rs1 ∧ Path J v y ns2 rs2 ∧ ns = ns1 ++ ns2 ∧ rs = rs1 ++ j.r :: rs2 := by
  induction h with
  | nil x => exact .inl (.nil x)
  | @cons x z y r ns rs e p hn ih =>
    rcases edge_snoc e with e | e
    · rcases ih with ih | ⟨u, v, ns1, ns2, rs1, rs2, hs, p1, p2, rfl, rfl⟩
      · exact .inl (.cons e ih hn)
      · exact .inr ⟨u, v, x :: ns1, ns2, r :: rs1, rs2, hs, .cons e p1 (fun h => hn (List.mem_append_left _ h)), p2, rfl, rfl⟩
    · obtain rfl : r = j.r := by rcases e with ⟨_, _, h⟩ | ⟨_, _, h⟩ <;> exact h.symm
      rcases ih with ih | ⟨u, v, ns1, ns2, rs1, rs2, hs, p1, p2, rfl, rfl⟩
      · exact .inr ⟨x, z, [x], ns, [], rs, e, .nil x, ih, rfl, rfl⟩
      · exfalso
        have h1 := p1.stop
        have h2 := p2.start
        have : x = u ∨ x = v := by
          rcases e with ⟨e1, e2, _⟩ | ⟨e1, e2, _⟩ <;> rcases hs with ⟨g1, g2, _⟩ | ⟨g1, g2, _⟩ <;> omega
        rcases this with rfl | rfl
        · exact hn (List.mem_append_left _ h1)
        · exact hn (List.mem_append_right _ h2)

inductive Tree : List Jn → Prop
  | nil : Tree []
  | snoc {J : List Jn} {j : Jn} : Tree J → ¬ Conn J j.a j.b → Tree (J ++ [j])
theorem sees_apart {J : List Jn} {j : Jn} {u v r : Int} (hs : j.sees u v r) (hn : ¬ Conn J j.a j.b) : ¬ Conn J u v := fun h => by
  rcases hs with ⟨h1, h2, _⟩ | ⟨h1, h2, _⟩
  · exact hn (by rw [h1, h2]; exact h)
  · exact hn (by rw [h1, h2]; exact h.symm)
/-- In a forest there is one path. -/
theorem Tree.one {J : List Jn} (h : Tree J) : ∀ {x y : Int} {ns rs ns' rs' : List Int}, Path J x y ns rs → Path J x y ns' rs' → rs = rs' := by
  induction h with
  | nil =>
    intro x y ns rs ns' rs' p q
    cases p with
    | nil =>
      cases q with
      | nil => rfl
      | cons e _ _ => obtain ⟨_, hj, _⟩ := e; cases hj
    | cons e _ _ => obtain ⟨_, hj, _⟩ := e; cases hj
  | @snoc J j _ hn ih =>
    intro x y ns rs ns' rs' p q
    rcases p.parts with p | ⟨u, v, ns1, ns2, rs1, rs2, hs, p1, p2, _, rfl⟩
    · rcases q.parts with q | ⟨u', v', ns1', ns2', rs1', rs2', hs', q1, q2, _, rfl⟩
      · exact ih p q
      · exact absurd ((q1.conn.symm.trans p.conn).trans q2.conn.symm) (sees_apart hs' hn)
    · rcases q.parts with q | ⟨u', v', ns1', ns2', rs1', rs2', hs', q1, q2, _, rfl⟩
      · exact absurd ((p1.conn.symm.trans q.conn).trans p2.conn.symm) (sees_apart hs hn)
      · have huv : u = u' ∧ v = v' := by
          have hcase : (u = u' ∧ v = v') ∨ (u = v' ∧ v = u') := by
            rcases hs with ⟨g1, g2, _⟩ | ⟨g1, g2, _⟩ <;> rcases hs' with ⟨g3, g4, _⟩ | ⟨g3, g4, _⟩ <;> omega
          rcases hcase with h | ⟨rfl, rfl⟩
          · exact h
          · exact absurd (p1.conn.symm.trans q1.conn) (sees_apart hs hn)
        obtain ⟨rfl, rfl⟩ := huv
        rw [ih p1 q1, ih p2 q2]

/-- One of a class, by the joins. -/
def cls (J : List Jn) : Int → Int := J.foldl (fun f j x => if f x = f j.b then f j.a else f x) id
theorem cls_snoc (J : List Jn) (j : Jn) (x : Int) : cls (J ++ [j]) x = if cls J x = cls J j.b then cls J j.a else cls J x := by
  unfold cls
  rw [List.foldl_append]
  rfl
theorem snoc_ind {α : Type} {p : List α → Prop} (h0 : p []) (h1 : ∀ l a, p l → p (l ++ [a])) (l : List α) : p l := by
  have : ∀ m : List α, p m.reverse := fun m => by
    induction m with
    | nil => exact h0
    | cons a m ih => rw [List.reverse_cons]; exact h1 _ _ ih
  have h := this l.reverse
  rwa [List.reverse_reverse] at h
theorem cls_edge (J : List Jn) : ∀ {x y r : Int}, Edge J x y r → cls J x = cls J y := by
  induction J using snoc_ind with
  | h0 => intro x y r h; obtain ⟨_, hj, _⟩ := h; cases hj
  | h1 J j ih =>
    intro x y r h
    rw [cls_snoc, cls_snoc]
    rcases edge_snoc h with h | ⟨rfl, rfl, _⟩ | ⟨rfl, rfl, _⟩
    · rw [ih h]
    · split <;> simp_all
    · split <;> simp_all
theorem cls_conn {J : List Jn} {x y : Int} (h : Conn J x y) : cls J x = cls J y := by
  induction h with
  | refl => rfl
  | step e _ ih => rw [cls_edge J e, ih]
theorem conn_cls (J : List Jn) : ∀ {x y : Int}, cls J x = cls J y → Conn J x y := by
  induction J using snoc_ind with
  | h0 =>
    intro x y h
    obtain rfl : x = y := h
    exact .refl _
  | h1 J j ih =>
    intro x y h
    have hm : ∀ i ∈ J, i ∈ J ++ [j] := fun i hi => List.mem_append_left _ hi
    have hab : Conn (J ++ [j]) j.a j.b := .step ⟨j, by simp, .inl ⟨rfl, rfl, rfl⟩⟩ (.refl _)
    rw [cls_snoc, cls_snoc] at h
    split at h
    · rename_i h1
      split at h
      · rename_i h2
        exact (ih (h1.trans h2.symm)).mono hm
      · exact ((ih h1).mono hm).trans (hab.symm.trans ((ih h).mono hm))
    · split at h
      · rename_i h2
        exact ((ih h).mono hm).trans (hab.trans ((ih h2.symm).mono hm))
      · exact (ih h).mono hm
theorem conn_iff {J : List Jn} {x y : Int} : Conn J x y ↔ cls J x = cls J y := ⟨cls_conn, conn_cls J⟩

/-- What a join does. -/
def joinM (n : Int) (J : List Jn) (a b r : Int) : List Jn :=
  if (0 ≤ a ∧ a < n) ∧ (0 ≤ b ∧ b < n) ∧ ¬ cls J a = cls J b then J ++ [⟨a, b, r⟩] else J
structure Fine (n : Int) (J : List Jn) : Prop where
  tree : Tree J
  nodes : ∀ j ∈ J, (0 ≤ j.a ∧ j.a < n) ∧ (0 ≤ j.b ∧ j.b < n)
theorem Fine.join {n : Int} {J : List Jn} (h : Fine n J) (a b r : Int) : Fine n (joinM n J a b r) := by
  unfold joinM
  split
  · rename_i hc
    refine ⟨.snoc h.tree (fun k => hc.2.2 (cls_conn k)), fun j hj => ?_⟩
    rcases List.mem_append.1 hj with hj | hj
    · exact h.nodes j hj
    · obtain rfl : j = _ := List.mem_singleton.1 hj
      exact ⟨hc.1, hc.2.1⟩
  · exact h
theorem Tree.take {J : List Jn} (h : Tree J) (k : Nat) : Tree (J.take k) := by
  induction h generalizing k with
  | nil => simp; exact .nil
  | @snoc J j t hn ih =>
    by_cases hk : k ≤ J.length
    · rw [List.take_append_of_le_length hk]
      exact ih k
    · rw [List.take_of_length_le (by simp; omega)]
      exact .snoc t hn
theorem Fine.take {n : Int} {J : List Jn} (h : Fine n J) (k : Nat) : Fine n (J.take k) := ⟨h.tree.take k, fun j hj => h.nodes j (List.mem_of_mem_take hj)⟩
theorem join_prefix (n : Int) (J : List Jn) (a b r : Int) : ∃ X, joinM n J a b r = J ++ X := by
  unfold joinM
  split
  · exact ⟨_, rfl⟩
  · exact ⟨[], by simp⟩

/-! ### the order in which a walk comes to nodes -/
structure Stp where
  node : Int
  from_ : Int
  reason : Int
/-- O: what was come to, from a on; of the first k all neighbours are in it. -/
structure Seen (J : List Jn) (a : Int) (O : List Stp) (k : Nat) : Prop where
  le : k ≤ O.length
  head : O[0]? = some ⟨a, -1, 0⟩
  nodup : (O.map Stp.node).Nodup
  back : ∀ i s, 0 < i → O[i]? = some s → ∃ j t, j < i ∧ O[j]? = some t ∧ s.from_ = t.node ∧ Edge J s.node t.node s.reason
  closed : ∀ i s, i < k → O[i]? = some s → ∀ y r, Edge J s.node y r → y ∈ O.map Stp.node
theorem Seen.start (J : List Jn) (a : Int) : Seen J a [⟨a, -1, 0⟩] 0 :=
  ⟨Nat.zero_le _, rfl, by simp, fun i s hi h => by cases i with | zero => omega | succ i => simp at h, fun i s hi => by omega⟩
theorem Seen.push {J : List Jn} {a : Int} {O : List Stp} {k i : Nat} {s : Stp} (h : Seen J a O k) (hs : O[i]? = some s) {y r : Int} (he : Edge J s.node y r) (hn : y ∉ O.map Stp.node) : Seen J a (O ++ [⟨y, s.node, r⟩]) k := by
  have hil : i < O.length := (List.getElem?_eq_some_iff.1 hs).1
  refine ⟨?_, ?_, ?_, ?_, ?_⟩
  · have := h.le
    simp
    omega
  · rw [List.getElem?_append_left (by omega)]
    exact h.head
  · rw [List.map_append, List.nodup_append]
    refine ⟨h.nodup, by simp, fun x hx z hz => ?_⟩
    obtain rfl : z = y := by simpa using hz
    exact fun e => hn (e ▸ hx)
  · intro p q hp hq
    by_cases hpl : p < O.length
    · rw [List.getElem?_append_left hpl] at hq
      obtain ⟨j, t, hj, ht, h1, h2⟩ := h.back p q hp hq
      exact ⟨j, t, hj, by rw [List.getElem?_append_left (by omega)]; exact ht, h1, h2⟩
    · rw [List.getElem?_append_right (by omega)] at hq
      obtain ⟨hz, hq⟩ := List.getElem?_eq_some_iff.1 hq
      simp at hz
      have : q = ⟨y, s.node, r⟩ := by rw [← hq]; simp
      subst this
      exact ⟨i, s, by omega, by rw [List.getElem?_append_left hil]; exact hs, rfl, he.symm⟩
  · intro p q hp hq z t hz
    by_cases hpl : p < O.length
    · rw [List.getElem?_append_left hpl] at hq
      rw [List.map_append]
      exact List.mem_append_left _ (h.closed p q hp hq z t hz)
    · have := h.le
      omega
theorem Seen.conn {J : List Jn} {a : Int} {O : List Stp} {k : Nat} (h : Seen J a O k) : ∀ (i : Nat) (s : Stp), O[i]? = some s → Conn J s.node a := by
  intro i
  induction i using Nat.strongRecOn with
  | _ i ih =>
    intro s hs
    by_cases h0 : i = 0
    · subst h0
      rw [h.head] at hs
      injection hs with hs
      subst hs
      exact .refl _
    · obtain ⟨j, t, hj, ht, _, he⟩ := h.back i s (by omega) hs
      exact .step he (ih j hj t ht)
/-- Where all was walked, all that are one were come to. -/
theorem Seen.full {J : List Jn} {a : Int} {O : List Stp} (h : Seen J a O O.length) {y : Int} (hy : Conn J a y) : y ∈ O.map Stp.node := by
  have key : ∀ x z, Conn J x z → x ∈ O.map Stp.node → z ∈ O.map Stp.node := fun x z hx => by
    induction hx with
    | refl => exact id
    | step e _ ih =>
      intro hm
      obtain ⟨s, hs, rfl⟩ := List.mem_map.1 hm
      obtain ⟨i, hi, rfl⟩ := List.getElem_of_mem hs
      exact ih (h.closed i O[i] hi (List.getElem?_eq_getElem hi) _ _ e)
  refine key a y hy ?_
  have := h.head
  obtain ⟨h0, h1⟩ := List.getElem?_eq_some_iff.1 this
  exact List.mem_map.2 ⟨_, List.getElem_mem h0, by rw [h1]⟩

/-- The way back, place by place. -/
inductive Trace (O : List Stp) : Nat → List Int → Prop
  | zero : Trace O 0 []
  | step {i j : Nat} {s t : Stp} {rs : List Int} : O[i]? = some s → O[j]? = some t → j < i → s.from_ = t.node → Trace O j rs → Trace O i (s.reason :: rs)
theorem Seen.trace {J : List Jn} {a : Int} {O : List Stp} {k : Nat} (h : Seen J a O k) : ∀ (i : Nat) (s : Stp), O[i]? = some s → ∃ ns rs, Trace O i rs ∧ Path J s.node a ns rs ∧ ∀ x ∈ ns, ∃ j t, j ≤ i ∧ O[j]? = some t ∧ t.node = x := by
  intro i
  induction i using Nat.strongRecOn with
  | _ i ih =>
    intro s hs
    by_cases h0 : i = 0
    · subst h0
      rw [h.head] at hs
      injection hs with hs
      subst hs
      exact ⟨_, _, .zero, .nil _, fun x hx => ⟨0, _, Nat.le_refl _, h.head, (List.mem_singleton.1 hx).symm⟩⟩
    · obtain ⟨j, t, hj, ht, hf, he⟩ := h.back i s (by omega) hs
      obtain ⟨ns, rs, tr, p, hn⟩ := ih j hj t ht
      refine ⟨s.node :: ns, s.reason :: rs, .step hs ht hj hf tr, .cons he p ?_, ?_⟩
      · intro hm
        obtain ⟨q, u, hq, hu, e⟩ := hn _ hm
        obtain ⟨hq', hu'⟩ := List.getElem?_eq_some_iff.1 hu
        obtain ⟨hi', hs'⟩ := List.getElem?_eq_some_iff.1 hs
        have := (List.pairwise_iff_getElem.1 h.nodup) q i (by simpa using hq') (by simpa using hi') (by omega)
        simp [hu', hs', e] at this
      · intro x hx
        rcases List.mem_cons.1 hx with rfl | hx
        · exact ⟨i, s, Nat.le_refl _, hs, rfl⟩
        · obtain ⟨q, u, hq, hu, e⟩ := hn x hx
          exact ⟨q, u, by omega, hu, e⟩
theorem nodup_bound : ∀ (n : Nat) (l : List Nat), l.Nodup → (∀ x ∈ l, x < n) → l.length ≤ n
  | 0, [], _, _ => Nat.le_refl _
  | 0, x :: _, _, h => absurd (h x (by simp)) (by omega)
  | n + 1, l, hd, h => by
    have h1 := nodup_bound n (l.erase n) (hd.erase n) fun x hx => by
      have hx' := (hd.mem_erase_iff).1 hx
      have := h x hx'.2
      omega
    have h2 : l.length ≤ (l.erase n).length + 1 := by rw [List.length_erase]; split <;> omega
    omega
theorem Edge.nodes {n : Int} {J : List Jn} (h : Fine n J) {x y r : Int} (e : Edge J x y r) : (0 ≤ x ∧ x < n) ∧ (0 ≤ y ∧ y < n) := by
  obtain ⟨j, hj, e⟩ := e
  have := h.nodes j hj
  rcases e with ⟨rfl, rfl, _⟩ | ⟨rfl, rfl, _⟩
  · exact this
  · exact ⟨this.2, this.1⟩
theorem Seen.nodes {n : Int} {J : List Jn} {a : Int} {O : List Stp} {k : Nat} (h : Seen J a O k) (hF : Fine n J) (ha : 0 ≤ a ∧ a < n) : ∀ s ∈ O, 0 ≤ s.node ∧ s.node < n := by
  intro s hs
  obtain ⟨i, hi, rfl⟩ := List.getElem_of_mem hs
  by_cases h0 : i = 0
  · subst h0
    have := h.head
    rw [List.getElem?_eq_getElem hi] at this
    injection this with this
    rw [this]
    exact ha
  · obtain ⟨j, t, _, _, _, e⟩ := h.back i O[i] (by omega) (List.getElem?_eq_getElem hi)
    exact (e.nodes hF).1
theorem Seen.bound {n : Int} {J : List Jn} {a : Int} {O : List Stp} {k : Nat} (h : Seen J a O k) (hF : Fine n J) (ha : 0 ≤ a ∧ a < n) : O.length ≤ n.toNat := by
  have hn := h.nodes hF ha
  have := nodup_bound n.toNat (O.map fun s => s.node.toNat) (by
    have hd := h.nodup
    rw [List.Nodup, List.pairwise_map] at hd ⊢
    refine List.Pairwise.imp_of_mem ?_ hd
    intro x y hx hy hxy
    have := hn x hx
    have := hn y hy
    omega) (by
    intro x hx
    obtain ⟨s, hs, rfl⟩ := List.mem_map.1 hx
    have := hn s hs
    omega)
  simpa using this
theorem Seen.next {J : List Jn} {a : Int} {O : List Stp} {k : Nat} {s : Stp} (h : Seen J a O k) (hk : O[k]? = some s) (hc : ∀ y r, Edge J s.node y r → y ∈ O.map Stp.node) : Seen J a O (k + 1) := by
  refine ⟨(List.getElem?_eq_some_iff.1 hk).1, h.head, h.nodup, h.back, fun i t hi ht => ?_⟩
  by_cases hik : i = k
  · subst hik
    rw [hk] at ht
    injection ht with ht
    subst ht
    exact hc
  · exact h.closed i t (by omega) ht
end Go.Proofs.YtlipnnibagidiaaGreat

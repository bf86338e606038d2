/- The plain side of layer 23: joins that are sound and closed give the classes. -/
namespace Go.Proofs.YtkapbdjobfbhhaaGreat
structure Jn where
  a : Int
  b : Int
  r : Int
def Jn.sees (j : Jn) (x y r : Int) : Prop := (j.a = x ∧ j.b = y ∧ j.r = r) ∨ (j.b = x ∧ j.a = y ∧ j.r = r)
def Edge (J : List Jn) (x y r : Int) : Prop := ∃ j ∈ J, j.sees x y r
theorem Jn.sees.symm {j : Jn} {x y r : Int} (h : j.sees x y r) : j.sees y x r := by
  rcases h with ⟨h1, h2, h3⟩ | ⟨h1, h2, h3⟩
  · exact .inr ⟨h2, h1, h3⟩
  · exact .inl ⟨h2, h1, h3⟩
theorem Edge.symm {J : List Jn} {x y r : Int} (h : Edge J x y r) : Edge J y x r := by
  obtain ⟨j, hj, h⟩ := h
  exact ⟨j, hj, h.symm⟩
theorem Edge.mono {J J' : List Jn} {x y r : Int} (h : Edge J x y r) (hs : ∀ j ∈ J, j ∈ J') : Edge J' x y r := by
  obtain ⟨j, hj, h⟩ := h
  exact ⟨j, hs j hj, h⟩
theorem edge_snoc {J : List Jn} {j : Jn} {x y r : Int} (h : Edge (J ++ [j]) x y r) : Edge J x y r ∨ j.sees x y r := by
  obtain ⟨i, hi, h⟩ := h
  rcases List.mem_append.1 hi with hi | hi
  · exact .inl ⟨i, hi, h⟩
  · obtain rfl : i = j := by simpa using hi
    exact .inr h
inductive Conn (J : List Jn) : Int → Int → Prop
  | refl (x : Int) : Conn J x x
  | step {x y z r : Int} : Edge J x y r → Conn J y z → Conn J x z
theorem Conn.trans {J : List Jn} {x y z : Int} (h : Conn J x y) (k : Conn J y z) : Conn J x z := by
  induction h with
  | refl => exact k
  | step e _ ih => exact .step e (ih k)
theorem Conn.symm {J : List Jn} {x y : Int} (h : Conn J x y) : Conn J y x := by
  induction h with
  | refl => exact .refl _
  | step e _ ih => exact ih.trans (.step e.symm (.refl _))
theorem Conn.mono {J J' : List Jn} {x y : Int} (h : Conn J x y) (hs : ∀ j ∈ J, j ∈ J') : Conn J' x y := by
  induction h with
  | refl => exact .refl _
  | step e _ ih => exact .step (e.mono hs) ih
inductive Path (J : List Jn) : Int → Int → List Int → List Int → Prop
  | nil (x : Int) : Path J x x [x] []
  | cons {x y z r : Int} {ns rs : List Int} : Edge J x y r → Path J y z ns rs → x ∉ ns → Path J x z (x :: ns) (r :: rs)
theorem Path.conn {J : List Jn} {x y : Int} {ns rs : List Int} (h : Path J x y ns rs) : Conn J x y := by
  induction h with
  | nil => exact .refl _
  | cons e _ _ ih => exact .step e ih
theorem Path.mono {J J' : List Jn} {x y : Int} {ns rs : List Int} (h : Path J x y ns rs) (hs : ∀ j ∈ J, j ∈ J') : Path J' x y ns rs := by
  induction h with
  | nil => exact .nil _
  | cons e _ hn ih => exact .cons (e.mono hs) ih hn
theorem Path.start {J : List Jn} {x y : Int} {ns rs : List Int} (h : Path J x y ns rs) : x ∈ ns := by
  cases h <;> simp
theorem Path.stop {J : List Jn} {x y : Int} {ns rs : List Int} (h : Path J x y ns rs) : y ∈ ns := by
  induction h with
  | nil => simp
  | cons _ _ _ ih => exact List.mem_cons_of_mem _ ih
theorem Path.parts {J : List Jn} {j : Jn} {x y : Int} {ns rs : List Int} (h : Path (J ++ [j]) x y ns rs) :
    Path J x y ns rs ∨ ∃ u v ns1 ns2 rs1 rs2, j.sees u v j.r ∧ Path J x u ns1 rs1 ∧ Path J v y ns2 rs2 ∧ ns = ns1 ++ ns2 ∧ rs = rs1 ++ j.r :: rs2 := by
  induction h with
  | nil x => exact .inl (.nil x)
  | @cons x z y r ns rs e p hn ih =>
    rcases edge_snoc e with e | e
    · rcases ih with ih | ⟨u, v, ns1, ns2, rs1, rs2, hs, p1, p2, rfl, rfl⟩
      · exact .inl (.cons e ih hn)
      · exact .inr ⟨u, v, x :: ns1, ns2, r :: rs1, rs2, hs, .cons e p1 (fun h => hn (List.mem_append_left _ h)), p2, rfl, rfl⟩
    · obtain rfl : r = j.r := by rcases e with ⟨_, _, h⟩ | ⟨_, _, h⟩ <;> exact h.symm
      rcases ih with ih | ⟨u, v, ns1, ns2, rs1, rs2, hs, p1, p2, rfl, rfl⟩
      · exact .inr ⟨x, z, [x], ns, [], rs, e, .nil x, ih, rfl, rfl⟩
      · exfalso
        have h1 := p1.stop
        have h2 := p2.start
        have : x = u ∨ x = v := by
          rcases e with ⟨e1, e2, _⟩ | ⟨e1, e2, _⟩ <;> rcases hs with ⟨g1, g2, _⟩ | ⟨g1, g2, _⟩ <;> omega
        rcases this with rfl | rfl
        · exact hn (List.mem_append_left _ h1)
        · exact hn (List.mem_append_right _ h2)
inductive Tree : List Jn → Prop
  | nil : Tree []
  | snoc {J : List Jn} {j : Jn} : Tree J → ¬ Conn J j.a j.b → Tree (J ++ [j])
theorem sees_apart {J : List Jn} {j : Jn} {u v r : Int} (hs : j.sees u v r) (hn : ¬ Conn J j.a j.b) : ¬ Conn J u v := fun h => by
  rcases hs with ⟨h1, h2, _⟩ | ⟨h1, h2, _⟩
  · exact hn (by rw [h1, h2]; exact h)
  · exact hn (by rw [h1, h2]; exact h.symm)
theorem Tree.one {J : List Jn} (h : Tree J) : ∀ {x y : Int} {ns rs ns' rs' : List Int}, Path J x y ns rs → Path J x y ns' rs' → rs = rs' := by
  induction h with
  | nil =>
    intro x y ns rs ns' rs' p q
    cases p with
    | nil =>
      cases q with
      | nil => rfl
      | cons e _ _ => obtain ⟨_, hj, _⟩ := e; cases hj
    | cons e _ _ => obtain ⟨_, hj, _⟩ := e; cases hj
  | @snoc J j _ hn ih =>
    intro x y ns rs ns' rs' p q
    rcases p.parts with p | ⟨u, v, ns1, ns2, rs1, rs2, hs, p1, p2, _, rfl⟩
    · rcases q.parts with q | ⟨u', v', ns1', ns2', rs1', rs2', hs', q1, q2, _, rfl⟩
      · exact ih p q
      · exact absurd ((q1.conn.symm.trans p.conn).trans q2.conn.symm) (sees_apart hs' hn)
    · rcases q.parts with q | ⟨u', v', ns1', ns2', rs1', rs2', hs', q1, q2, _, rfl⟩
      · exact absurd ((p1.conn.symm.trans q.conn).trans p2.conn.symm) (sees_apart hs hn)
      · have huv : u = u' ∧ v = v' := by
          have hcase : (u = u' ∧ v = v') ∨ (u = v' ∧ v = u') := by
            rcases hs with ⟨g1, g2, _⟩ | ⟨g1, g2, _⟩ <;> rcases hs' with ⟨g3, g4, _⟩ | ⟨g3, g4, _⟩ <;> omega
          rcases hcase with h | ⟨rfl, rfl⟩
          · exact h
          · exact absurd (p1.conn.symm.trans q1.conn) (sees_apart hs hn)
        obtain ⟨rfl, rfl⟩ := huv
        rw [ih p1 q1, ih p2 q2]
def cls (J : List Jn) : Int → Int := J.foldl (fun f j x => if f x = f j.b then f j.a else f x) id
theorem cls_snoc (J : List Jn) (j : Jn) (x : Int) : cls (J ++ [j]) x = if cls J x = cls J j.b then cls J j.a else cls J x := by
  unfold cls
  rw [List.foldl_append]
  rfl
theorem snoc_ind {α : Type} {p : List α → Prop} (h0 : p []) (h1 : ∀ l a, p l → p (l ++ [a])) (l : List α) : p l := by
  have : ∀ m : List α, p m.reverse := fun m => by
    induction m with
    | nil => exact h0
    | cons a m ih => rw [List.reverse_cons]; exact h1 _ _ ih
  have h := this l.reverse
  rwa [List.reverse_reverse] at h
theorem cls_edge (J : List Jn) : ∀ {x y r : Int}, Edge J x y r → cls J x = cls J y := by
  induction J using snoc_ind with
  | h0 => intro x y r h; obtain ⟨_, hj, _⟩ := h; cases hj
  | h1 J j ih =>
    intro x y r h
    rw [cls_snoc, cls_snoc]
    rcases edge_snoc h with h | ⟨rfl, rfl, _⟩ | ⟨rfl, rfl, _⟩
    · rw [ih h]
    · split <;> simp_all
    · split <;> simp_all
theorem cls_conn {J : List Jn} {x y : Int} (h : Conn J x y) : cls J x = cls J y := by
  induction h with
  | refl => rfl
  | step e _ ih => rw [cls_edge J e, ih]
theorem conn_cls (J : List Jn) : ∀ {x y : Int}, cls J x = cls J y → Conn J x y := by
  induction J using snoc_ind with
  | h0 =>
    intro x y h
    obtain rfl : x = y := h
    exact .refl _
  | h1 J j ih =>
    intro x y h
    have hm : ∀ i ∈ J, i ∈ J ++ [j] := fun i hi => List.mem_append_left _ hi
    have hab : Conn (J ++ [j]) j.a j.b := .step ⟨j, by simp, .inl ⟨rfl, rfl, rfl⟩⟩ (.refl _)
    rw [cls_snoc, cls_snoc] at h
    split at h
    · rename_i h1
      split at h
      · rename_i h2
        exact (ih (h1.trans h2.symm)).mono hm
      · exact ((ih h1).mono hm).trans (hab.symm.trans ((ih h).mono hm))
    · split at h
      · rename_i h2
        exact ((ih h).mono hm).trans (hab.trans ((ih h2.symm).mono hm))
      · exact (ih h).mono hm
def joinM (n : Int) (J : List Jn) (a b r : Int) : List Jn :=
  if (0 ≤ a ∧ a < n) ∧ (0 ≤ b ∧ b < n) ∧ ¬ cls J a = cls J b then J ++ [⟨a, b, r⟩] else J
structure Fine (n : Int) (J : List Jn) : Prop where
  tree : Tree J
  nodes : ∀ j ∈ J, (0 ≤ j.a ∧ j.a < n) ∧ (0 ≤ j.b ∧ j.b < n)
theorem Fine.join {n : Int} {J : List Jn} (h : Fine n J) (a b r : Int) : Fine n (joinM n J a b r) := by
  unfold joinM
  split
  · rename_i hc
    refine ⟨.snoc h.tree (fun k => hc.2.2 (cls_conn k)), fun j hj => ?_⟩
    rcases List.mem_append.1 hj with hj | hj
    · exact h.nodes j hj
    · obtain rfl : j = _ := List.mem_singleton.1 hj
      exact ⟨hc.1, hc.2.1⟩
  · exact h
theorem Tree.take {J : List Jn} (h : Tree J) (k : Nat) : Tree (J.take k) := by
  induction h generalizing k with
  | nil => simp; exact .nil
  | @snoc J j t hn ih =>
    by_cases hk : k ≤ J.length
    · rw [List.take_append_of_le_length hk]
      exact ih k
    · rw [List.take_of_length_le (by simp; omega)]
      exact .snoc t hn
theorem Fine.take {n : Int} {J : List Jn} (h : Fine n J) (k : Nat) : Fine n (J.take k) := ⟨h.tree.take k, fun j hj => h.nodes j (List.mem_of_mem_take hj)⟩
theorem join_prefix (n : Int) (J : List Jn) (a b r : Int) : ∃ X, joinM n J a b r = J ++ X := by
  unfold joinM
  split
  · exact ⟨_, rfl⟩
  · exact ⟨[], by simp⟩
structure Stp where
  node : Int
  from_ : Int
  reason : Int
structure Seen (J : List Jn) (a : Int) (O : List Stp) (k : Nat) : Prop where
  le : k ≤ O.length
  head : O[0]? = some ⟨a, -1, 0⟩
  nodup : (O.map Stp.node).Nodup
  back : ∀ i s, 0 < i → O[i]? = some s → ∃ j t, j < i ∧ O[j]? = some t ∧ s.from_ = t.node ∧ Edge J s.node t.node s.reason
  closed : ∀ i s, i < k → O[i]? = some s → ∀ y r, Edge J s.node y r → y ∈ O.map Stp.node
theorem Seen.start (J : List Jn) (a : Int) : Seen J a [⟨a, -1, 0⟩] 0 :=
  ⟨Nat.zero_le _, rfl, by simp, fun i s hi h => by cases i with | zero => omega | succ i => simp at h, fun i s hi => by omega⟩
theorem Seen.push {J : List Jn} {a : Int} {O : List Stp} {k i : Nat} {s : Stp} (h : Seen J a O k) (hs : O[i]? = some s) {y r : Int} (he : Edge J s.node y r) (hn : y ∉ O.map Stp.node) : Seen J a (O ++ [⟨y, s.node, r⟩]) k := by
  have hil : i < O.length := (List.getElem?_eq_some_iff.1 hs).1
  refine ⟨?_, ?_, ?_, ?_, ?_⟩
  · have := h.le
    simp
    omega
  · rw [List.getElem?_append_left (by omega)]
    exact h.head
  · rw [List.map_append, List.nodup_append]
    refine ⟨h.nodup, by simp, fun x hx z hz => ?_⟩
    obtain rfl : z = y := by simpa using hz
    exact fun e => hn (e ▸ hx)
  · intro p q hp hq
    by_cases hpl : p < O.length
    · rw [List.getElem?_append_left hpl] at hq
      obtain ⟨j, t, hj, ht, h1, h2⟩ := h.back p q hp hq
      exact ⟨j, t, hj, by rw [List.getElem?_append_left (by omega)]; exact ht, h1, h2⟩
    · rw [List.getElem?_append_right (by omega)] at hq
      obtain ⟨hz, hq⟩ := List.getElem?_eq_some_iff.1 hq
      simp at hz
      have : q = ⟨y, s.node, r⟩ := by rw [← hq]; simp
      subst this
      exact ⟨i, s, by omega, by rw [List.getElem?_append_left hil]; exact hs, rfl, he.symm⟩
  · intro p q hp hq z t hz
    by_cases hpl : p < O.length
    · rw [List.getElem?_append_left hpl] at hq
      rw [List.map_append]
      exact List.mem_append_left _ (h.closed p q hp hq z t hz)
    · have := h.le
      omega
theorem Seen.conn {J : List Jn} {a : Int} {O : List Stp} {k : Nat} (h : Seen J a O k) : ∀ (i : Nat) (s : Stp), O[i]? = some s → Conn J s.node a := by
  intro i
  induction i using Nat.strongRecOn with
  | _ i ih =>
    intro s hs
    by_cases h0 : i = 0
    · subst h0
      rw [h.head] at hs
      injection hs with hs
      subst hs
      exact .refl _
    · obtain ⟨j, t, hj, ht, _, he⟩ := h.back i s (by omega) hs
      exact .step he (ih j hj t ht)
theorem Seen.full {J : List Jn} {a : Int} {O : List Stp} (h : Seen J a O O.length) {y : Int} (hy : Conn J a y) : y ∈ O.map Stp.node := by
  have key : ∀ x z, Conn J x z → x ∈ O.map Stp.node → z ∈ O.map Stp.node := fun x z hx => by
    induction hx with
    | refl => exact id
    | step e _ ih =>
      intro hm
      obtain ⟨s, hs, rfl⟩ := List.mem_map.1 hm
      obtain ⟨i, hi, rfl⟩ := List.getElem_of_mem hs
      exact ih (h.closed i O[i] hi (List.getElem?_eq_getElem hi) _ _ e)
  refine key a y hy ?_
  have := h.head
  obtain ⟨h0, h1⟩ := List.getElem?_eq_some_iff.1 this
  exact List.mem_map.2 ⟨_, List.getElem_mem h0, by rw [h1]⟩
theorem nodup_bound : ∀ (n : Nat) (l : List Nat), l.Nodup → (∀ x ∈ l, x < n) → l.length ≤ n
  | 0, [], _, _ => Nat.le_refl _
  | 0, x :: _, _, h => absurd (h x (by simp)) (by omega)
  | n + 1, l, hd, h => by
    have h1 := nodup_bound n (l.erase n) (hd.erase n) fun x hx => by
      have hx' := (hd.mem_erase_iff).1 hx
      have := h x hx'.2
      omega
    have h2 : l.length ≤ (l.erase n).length + 1 := by rw [List.length_erase]; split <;> omega
    omega
theorem Edge.nodes {n : Int} {J : List Jn} (h : Fine n J) {x y r : Int} (e : Edge J x y r) : (0 ≤ x ∧ x < n) ∧ (0 ≤ y ∧ y < n) := by
  obtain ⟨j, hj, e⟩ := e
  have := h.nodes j hj
  rcases e with ⟨rfl, rfl, _⟩ | ⟨rfl, rfl, _⟩
  · exact this
  · exact ⟨this.2, this.1⟩
theorem Seen.nodes {n : Int} {J : List Jn} {a : Int} {O : List Stp} {k : Nat} (h : Seen J a O k) (hF : Fine n J) (ha : 0 ≤ a ∧ a < n) : ∀ s ∈ O, 0 ≤ s.node ∧ s.node < n := by
  intro s hs
  obtain ⟨i, hi, rfl⟩ := List.getElem_of_mem hs
  by_cases h0 : i = 0
  · subst h0
    have := h.head
    rw [List.getElem?_eq_getElem hi] at this
    injection this with this
    rw [this]
    exact ha
  · obtain ⟨j, t, _, _, _, e⟩ := h.back i O[i] (by omega) (List.getElem?_eq_getElem hi)
    exact (e.nodes hF).1
theorem Seen.bound {n : Int} {J : List Jn} {a : Int} {O : List Stp} {k : Nat} (h : Seen J a O k) (hF : Fine n J) (ha : 0 ≤ a ∧ a < n) : O.length ≤ n.toNat := by
  have hn := h.nodes hF ha
  have := nodup_bound n.toNat (O.map fun s => s.node.toNat) (by
    have hd := h.nodup
    rw [List.Nodup, List.pairwise_map] at hd ⊢
    refine List.Pairwise.imp_of_mem ?_ hd
    intro x y hx hy hxy
    have := hn x hx
    have := hn y hy
    omega) (by
    intro x hx
    obtain ⟨s, hs, rfl⟩ := List.mem_map.1 hx
    have := hn s hs
    omega)
  simpa using this
theorem Seen.next {J : List Jn} {a : Int} {O : List Stp} {k : Nat} {s : Stp} (h : Seen J a O k) (hk : O[k]? = some s) (hc : ∀ y r, Edge J s.node y r → y ∈ O.map Stp.node) : Seen J a O (k + 1) := by
  refine ⟨(List.getElem?_eq_some_iff.1 hk).1, h.head, h.nodup, h.back, fun i t hi ht => ?_⟩
  by_cases hik : i = k
  · subst hik
    rw [hk] at ht
    injection ht with ht
    subst ht
    exact hc
  · exact h.closed i t (by omega) ht
end Go.Proofs.YtkapbdjobfbhhaaGreat
namespace Go.Proofs.YtkapbdjobfbhhaaGreat
structure Nd where
  op : Int
  len : Int
  a0 : Int
  a1 : Int
  a2 : Int
  sort : Int
  fn : Int
  num : Int
instance : Inhabited Nd := ⟨⟨0, 0, 0, 0, 0, 0, 0, 0⟩⟩
def Nd.arg (n : Nd) (j : Nat) : Int := if j = 0 then n.a0 else if j = 1 then n.a1 else n.a2
def arityM (op : Int) : Option (Int × Int) :=
  if op = 0 ∨ op = 10 then some (0, 0) else if op = 1 ∨ op = 11 then some (1, 1) else if op = 7 then some (3, 3) else if op = 13 then some (0, 3) else if 2 ≤ op ∧ op ≤ 12 then some (2, 2) else none
structure Stands (n : Nd) (at_ : Int) : Prop where
  ar : ∃ lo hi, arityM n.op = some (lo, hi) ∧ lo ≤ n.len ∧ n.len ≤ hi
  srt : 0 ≤ n.sort ∧ n.sort < 6
  args : ∀ j : Nat, j < 3 → ((j : Int) < n.len → 0 ≤ n.arg j ∧ n.arg j < at_) ∧ (n.len ≤ j → n.arg j = 0)
  fun_ : 0 ≤ n.fn ∧ n.fn < 12 ∧ (0 < n.fn → n.op = 13)
  numb : (n.op = 10 ∨ n.op = 11 ∨ n.op = 12 → -4611686018427387904 ≤ n.num ∧ n.num ≤ 4611686018427387904) ∧ (¬ (n.op = 10 ∨ n.op = 11 ∨ n.op = 12) → n.num = 0)
def trueNd : Nd := ⟨0, 0, 0, 0, 0, 0, 0, 0⟩
def zeroNd : Nd := ⟨10, 0, 0, 0, 0, 1, 0, 0⟩
structure TabOk (T : List Nd) : Prop where
  t0 : T[0]? = some trueNd
  t1 : T[1]? = some zeroNd
  st : ∀ (i : Nat) (n : Nd), T[i]? = some n → Stands n i
  once : T.Nodup
theorem TabOk.len {T : List Nd} (h : TabOk T) : 2 ≤ T.length := (List.getElem?_eq_some_iff.1 h.t1).1
theorem Stands.len {n : Nd} {a : Int} (h : Stands n a) : 0 ≤ n.len ∧ n.len ≤ 3 := by
  obtain ⟨lo, hi, e, h1, h2⟩ := h.ar
  unfold arityM at e
  repeat' split at e
  all_goals first
    | (injection e with e; injection e with e1 e2; subst e1 e2; omega)
    | cases e
theorem Stands.not_ {n : Nd} {a : Int} (h : Stands n a) (ho : n.op = 1) : n.len = 1 := by
  obtain ⟨lo, hi, e, h1, h2⟩ := h.ar
  rw [ho] at e
  simp [arityM] at e
  omega
theorem Stands.not0 {n : Nd} {a : Int} (h : Stands n a) (ho : n.op = 1) : 0 ≤ n.a0 ∧ n.a0 < a := by
  have := (h.args 0 (by omega)).1 (by rw [h.not_ ho]; decide)
  exact this
def sortM (T : List Nd) (id : Int) : Int := if id < 0 then -1 else match T[id.toNat]? with
  | some n => n.sort
  | none => -1
def kindOp (op : Int) : Int := if op = 0 then 1 else if op = 1 then 2 else if op = 2 ∨ op = 3 ∨ op = 4 ∨ op = 5 ∨ op = 7 then 3 else if op = 8 ∨ op = 9 then 7 else if op = 12 then 6 else if op = 13 then 8 else 0
def kindEq (s : Int) : Int := if s = 0 then 3 else if s = 1 then 5 else if 2 ≤ s then 4 else 0
def kindM (T : List Nd) (id : Int) : Int := if sortM T id ≠ 0 then 0 else match T[id.toNat]? with
  | some n => if n.op = 6 then kindEq (sortM T n.a0) else kindOp n.op
  | none => 0
def Sided (T : List Nd) (id : Int) : Prop := kindM T id = 4 ∨ kindM T id = 5
def LitMay (T : List Nd) (x : Int) : Prop := 0 ≤ x ∧ sortM T (x / 2) = 0 ∧ ∀ n, T[(x / 2).toNat]? = some n → n.op ≠ 1
def MayLits (T : List Nd) (L : List Int) : Prop := TabOk T ∧ ∀ x ∈ L, LitMay T x
theorem LitMay.node {T : List Nd} {x : Int} (h : LitMay T x) : ∃ n, T[(x / 2).toNat]? = some n ∧ n.sort = 0 ∧ n.op ≠ 1 ∧ (x / 2).toNat < T.length ∧ 0 ≤ x / 2 := by
  obtain ⟨h0, h1, h2⟩ := h
  unfold sortM at h1
  rw [if_neg (by omega)] at h1
  cases hn : T[(x / 2).toNat]? with
  | none => rw [hn] at h1; cases h1
  | some n =>
    rw [hn] at h1
    exact ⟨n, rfl, h1, h2 n hn, (List.getElem?_eq_some_iff.1 hn).1, by omega⟩
inductive Chain (T : List Nd) : Int → Int → Prop
  | refl (a : Int) : Chain T a a
  | step {i : Nat} {n : Nd} {x : Int} : T[i]? = some n → n.op = 1 → Chain T n.a0 x → Chain T i x
def ArgOf (T : List Nd) (x : Int) : Prop := ∃ (i : Nat) (n : Nd) (j : Nat), T[i]? = some n ∧ n.op = 13 ∧ (j : Int) < n.len ∧ j < 3 ∧ Chain T (n.arg j) x
def Tell (T : List Nd) (x : Int) : Prop := (kindM T (x / 2) = 4 ∨ kindM T (x / 2) = 5 ∨ kindM T (x / 2) = 8) ∨ ArgOf T (x / 2)
def told (T : List Nd) (L : List Int) (x : Int) : Prop := x ∈ L ∧ Tell T x
theorem Chain.snoc {T : List Nd} {a : Int} {i : Nat} {n : Nd} (h : Chain T a i) (hn : T[i]? = some n) (ho : n.op = 1) : Chain T a n.a0 := by
  generalize e : (i : Int) = x at h
  induction h with
  | refl a => subst e; exact .step hn ho (.refl _)
  | step h1 h2 _ ih => exact .step h1 h2 (ih e)
theorem Chain.last {T : List Nd} {a x : Int} (h : Chain T a x) : a = x ∨ ∃ (i : Nat) (n : Nd), T[i]? = some n ∧ n.op = 1 ∧ n.a0 = x ∧ Chain T a i := by
  induction h with
  | refl a => exact .inl rfl
  | @step i n x h1 h2 _ ih =>
    rcases ih with e | ⟨k, m, hk, hm, e, hc⟩
    · exact .inr ⟨i, n, h1, h2, e, .refl _⟩
    · exact .inr ⟨k, m, hk, hm, e, .step h1 h2 hc⟩
inductive Cg (T : List Nd) (S : Int → Prop) : Int → Int → Prop
  | refl (a : Int) : Cg T S a a
  | symm {a b : Int} : Cg T S a b → Cg T S b a
  | trans {a b c : Int} : Cg T S a b → Cg T S b c → Cg T S a c
  | neg {x : Int} : S x → x % 2 = 1 → Cg T S (x / 2) T.length
  | pos {x : Int} : S x → x % 2 = 0 → Cg T S (x / 2) 0
  | side {x : Int} {n : Nd} : S x → x % 2 = 0 → Sided T (x / 2) → T[(x / 2).toNat]? = some n → Cg T S n.a0 n.a1
  | not1 {i : Nat} {n : Nd} : T[i]? = some n → n.op = 1 → Cg T S i 0 → Cg T S n.a0 T.length
  | not2 {i : Nat} {n : Nd} : T[i]? = some n → n.op = 1 → Cg T S i T.length → Cg T S n.a0 0
  | not3 {i : Nat} {n : Nd} : T[i]? = some n → n.op = 1 → Cg T S n.a0 0 → Cg T S i T.length
  | not4 {i : Nat} {n : Nd} : T[i]? = some n → n.op = 1 → Cg T S n.a0 T.length → Cg T S i 0
  | app {i k : Nat} {n m : Nd} : T[i]? = some n → T[k]? = some m → n.op = 13 → m.op = 13 → n.fn = m.fn → n.len = m.len → (∀ j : Nat, (j : Int) < n.len → Cg T S (n.arg j) (m.arg j)) → Cg T S i k
structure Has (T : List Nd) (S : Int → Prop) (f : Int → Int) : Prop where
  neg : ∀ x, S x → x % 2 = 1 → f (x / 2) = f T.length
  pos : ∀ x, S x → x % 2 = 0 → f (x / 2) = f 0
  side : ∀ x n, S x → x % 2 = 0 → Sided T (x / 2) → T[(x / 2).toNat]? = some n → f n.a0 = f n.a1
def NotOk (f : Int → Int) (N a b : Int) : Prop := (f a = f 0 → f b = f N) ∧ (f a = f N → f b = f 0) ∧ (f b = f 0 → f a = f N) ∧ (f b = f N → f a = f 0)
structure Clo (T : List Nd) (f : Int → Int) : Prop where
  nots : ∀ (i : Nat) (n : Nd), T[i]? = some n → n.op = 1 → NotOk f T.length i n.a0
  apps : ∀ (i k : Nat) (n m : Nd), T[i]? = some n → T[k]? = some m → n.op = 13 → m.op = 13 → n.fn = m.fn → n.len = m.len → (∀ j : Nat, (j : Int) < n.len → f (n.arg j) = f (m.arg j)) → f i = f k
theorem Cg.into {T : List Nd} {S : Int → Prop} {f : Int → Int} (h : Has T S f) (c : Clo T f) {a b : Int} (g : Cg T S a b) : f a = f b := by
  induction g with
  | refl => rfl
  | symm _ ih => exact ih.symm
  | trans _ _ i1 i2 => exact i1.trans i2
  | neg h1 h2 => exact h.neg _ h1 h2
  | pos h1 h2 => exact h.pos _ h1 h2
  | side h1 h2 h3 h4 => exact h.side _ _ h1 h2 h3 h4
  | not1 h1 h2 _ ih => exact (c.nots _ _ h1 h2).1 ih
  | not2 h1 h2 _ ih => exact (c.nots _ _ h1 h2).2.1 ih
  | not3 h1 h2 _ ih => exact (c.nots _ _ h1 h2).2.2.1 ih
  | not4 h1 h2 _ ih => exact (c.nots _ _ h1 h2).2.2.2 ih
  | app h1 h2 h3 h4 h5 h6 _ ih => exact c.apps _ _ _ _ h1 h2 h3 h4 h5 h6 ih
theorem Cg.more {T : List Nd} {S S' : Int → Prop} (hs : ∀ x, S x → S' x) {a b : Int} (g : Cg T S a b) : Cg T S' a b := by
  induction g with
  | refl => exact .refl _
  | symm _ ih => exact ih.symm
  | trans _ _ i1 i2 => exact i1.trans i2
  | neg h1 h2 => exact .neg (hs _ h1) h2
  | pos h1 h2 => exact .pos (hs _ h1) h2
  | side h1 h2 h3 h4 => exact .side (hs _ h1) h2 h3 h4
  | not1 h1 h2 _ ih => exact .not1 h1 h2 ih
  | not2 h1 h2 _ ih => exact .not2 h1 h2 ih
  | not3 h1 h2 _ ih => exact .not3 h1 h2 ih
  | not4 h1 h2 _ ih => exact .not4 h1 h2 ih
  | app h1 h2 h3 h4 h5 h6 _ ih => exact .app h1 h2 h3 h4 h5 h6 ih
def IsRep (R : Int → Int → Prop) (N a r : Int) : Prop := (0 ≤ r ∧ r ≤ N) ∧ R a r ∧ ∀ b, 0 ≤ b → b ≤ N → R a b → r ≤ b
def Classes (T : List Nd) (S : Int → Prop) (cs : List Int) : Prop := cs.length = T.length + 1 ∧ ∀ (i : Nat) (h : i < cs.length), IsRep (Cg T S) T.length i cs[i]
theorem Classes.one {T : List Nd} {S : Int → Prop} {cs ds : List Int} (h : Classes T S cs) (k : Classes T S ds) : cs = ds := by
  refine List.ext_getElem (h.1.trans k.1.symm) fun i h1 h2 => ?_
  have a := h.2 i h1
  have b := k.2 i h2
  exact Int.le_antisymm (a.2.2 _ b.1.1 b.1.2 b.2.1) (b.2.2 _ a.1.1 a.1.2 a.2.1)
theorem Classes.same {T : List Nd} {S : Int → Prop} {cs : List Int} (h : Classes T S cs) {i k : Nat} (hi : i < cs.length) (hk : k < cs.length) (g : Cg T S i k) : cs[i] = cs[k] := by
  have a := h.2 i hi
  have b := h.2 k hk
  exact Int.le_antisymm (a.2.2 _ b.1.1 b.1.2 (g.trans b.2.1)) (b.2.2 _ a.1.1 a.1.2 (g.symm.trans a.2.1))
def Bad (T : List Nd) (S : Int → Prop) : Prop := Cg T S 0 T.length ∨ ∃ x n, S x ∧ x % 2 = 1 ∧ Sided T (x / 2) ∧ T[(x / 2).toNat]? = some n ∧ Cg T S n.a0 n.a1
theorem Bad.more {T : List Nd} {S S' : Int → Prop} (hs : ∀ x, S x → S' x) (h : Bad T S) : Bad T S' := by
  rcases h with h | ⟨x, n, h1, h2, h3, h4, h5⟩
  · exact .inl (h.more hs)
  · exact .inr ⟨x, n, hs x h1, h2, h3, h4, h5.more hs⟩
def BadL (T : List Nd) (L : List Int) : Prop := MayLits T L ∧ Bad T (told T L)
theorem BadL.more {T : List Nd} {L M : List Int} (h : BadL T L) (hs : ∀ x ∈ L, x ∈ M) (hm : MayLits T M) : BadL T M := ⟨hm, h.2.more fun x hx => ⟨hs x hx.1, hx.2⟩⟩
end Go.Proofs.YtkapbdjobfbhhaaGreat
namespace Go.Proofs.YtkapbdjobfbhhaaGreat
section
variable {T : List Nd} {S : Int → Prop} {J : List Jn}
def Snd (T : List Nd) (S : Int → Prop) (J : List Jn) : Prop := ∀ j ∈ J, Cg T S j.a j.b
theorem Snd.nil : Snd T S [] := fun _ h => by cases h
theorem Snd.conn (h : Snd T S J) {a b : Int} (c : Conn J a b) : Cg T S a b := by
  induction c with
  | refl => exact .refl _
  | step e _ ih =>
    obtain ⟨j, hj, e⟩ := e
    rcases e with ⟨rfl, rfl, _⟩ | ⟨rfl, rfl, _⟩
    · exact (h j hj).trans ih
    · exact (h j hj).symm.trans ih
theorem Snd.cls (h : Snd T S J) {a b : Int} (c : cls J a = cls J b) : Cg T S a b := h.conn (conn_cls J c)
theorem Snd.join (h : Snd T S J) {n a b r : Int} (g : Cg T S a b) : Snd T S (joinM n J a b r) := by
  unfold joinM
  split
  · intro j hj
    rcases List.mem_append.1 hj with hj | hj
    · exact h j hj
    · obtain rfl := List.mem_singleton.1 hj
      exact g
  · exact h
theorem cls_join {n a b r u v : Int} (h : cls J u = cls J v) : cls (joinM n J a b r) u = cls (joinM n J a b r) v := by
  obtain ⟨X, hX⟩ := join_prefix n J a b r
  rw [hX]
  exact cls_conn ((conn_cls J h).mono fun j hj => List.mem_append_left _ hj)
theorem cls_joined {n a b r : Int} (ha : 0 ≤ a ∧ a < n) (hb : 0 ≤ b ∧ b < n) : cls (joinM n J a b r) a = cls (joinM n J a b r) b := by
  unfold joinM
  split
  · rename_i hc
    rw [cls_snoc, cls_snoc]
    simp only
    split <;> split <;> first | rfl | assumption | simp_all
  · rename_i hc
    refine Classical.byContradiction fun hne => hc ⟨ha, hb, hne⟩
theorem Has.join {n a b r : Int} (h : Has T S (cls J)) : Has T S (cls (joinM n J a b r)) :=
  ⟨fun x h1 h2 => cls_join (h.neg x h1 h2), fun x h1 h2 => cls_join (h.pos x h1 h2), fun x m h1 h2 h3 h4 => cls_join (h.side x m h1 h2 h3 h4)⟩
theorem join_len {n a b r : Int} (h : ¬ cls J a = cls J b) (ha : 0 ≤ a ∧ a < n) (hb : 0 ≤ b ∧ b < n) : (joinM n J a b r).length = J.length + 1 := by
  unfold joinM
  rw [if_pos ⟨ha, hb, h⟩, List.length_append]
  rfl
structure Done (T : List Nd) (S : Int → Prop) (J : List Jn) : Prop where
  snd : Snd T S J
  has : Has T S (cls J)
  clo : Clo T (cls J)
theorem Done.iff (h : Done T S J) {a b : Int} : cls J a = cls J b ↔ Cg T S a b := ⟨h.snd.cls, fun g => g.into h.has h.clo⟩
end
def atC (c : List Int) (a : Int) : Int := c.getD a.toNat 0
theorem atC_nat {c : List Int} {i : Nat} (h : i < c.length) : atC c i = c[i] := by
  unfold atC
  rw [Int.toNat_natCast, List.getD_eq_getElem?_getD, List.getElem?_eq_getElem h]
  rfl
section
variable {T : List Nd} {S : Int → Prop} {c : List Int}
end
end Go.Proofs.YtkapbdjobfbhhaaGreat

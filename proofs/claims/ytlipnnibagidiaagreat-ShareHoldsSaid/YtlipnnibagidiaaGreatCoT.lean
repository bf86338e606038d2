/- The plain side of layer 12: the sorts of a node's arguments. -/
import Derived.Test.YtlipnnibagidiaaGreatCoP
namespace Go.Proofs.YtlipnnibagidiaaGreat
theorem ofT_e {T : List Nd} {a : Int} (h : (ofT T a).e = 0) : Shd T a ∧ (ofT T a).b = (baseT T a).1 ∧ (ofT T a).n = (baseT T a).2 := by
  unfold ofT at h ⊢
  split at h
  · rename_i h1
    rw [if_pos h1]
    split at h
    · rename_i h2
      rw [if_pos h2]
      simp only [Bool.and_eq_true, decide_eq_true_eq] at h1
      exact ⟨⟨h1.1.2, h1.2, h2⟩, rfl, rfl⟩
    · cases h
  · cases h
theorem diffT_e {T : List Nd} {a b c : Int} (h : (diffT T a b c).e = 0) : Shd T a ∧ Shd T b ∧ (diffT T a b c).x = (baseT T a).1 ∧ (diffT T a b c).y = (baseT T b).1 ∧ (diffT T a b c).d = c - (baseT T a).2 + (baseT T b).2 ∧ mayI (diffT T a b c).d = true := by
  unfold diffT at h ⊢
  split at h
  · rename_i h1
    exact absurd h h1
  rename_i h1
  split at h
  · rename_i h2
    exact absurd h h2
  rename_i h2
  split at h
  · rename_i h3
    exact absurd h h3
  rename_i h3
  split at h
  · rename_i h4
    exact absurd h h4
  rename_i h4
  rw [if_neg h1, if_neg h2, if_neg h3, if_neg h4]
  obtain ⟨s1, e1, e2⟩ := ofT_e (Classical.not_not.1 h1)
  obtain ⟨s2, f1, f2⟩ := ofT_e (Classical.not_not.1 h2)
  rw [e2] at h3 h4 ⊢
  rw [f2] at h4 ⊢
  have g3 : (subN c (baseT T a).2).1 = c - (baseT T a).2 := by
    unfold subN at h3 ⊢
    split
    · rfl
    · rename_i hn
      rw [if_neg hn] at h3
      exact absurd (by decide) h3
  rw [g3] at h4 ⊢
  have g4 : (addN (c - (baseT T a).2) (baseT T b).2).1 = c - (baseT T a).2 + (baseT T b).2 ∧ mayI (c - (baseT T a).2 + (baseT T b).2) = true := by
    unfold addN at h4 ⊢
    split
    · rename_i hn
      simp only [Bool.and_eq_true] at hn
      exact ⟨rfl, hn.2⟩
    · rename_i hn
      rw [if_neg hn] at h4
      exact absurd (by decide) h4
  refine ⟨s1, s2, e1, f1, g4.1, ?_⟩
  show mayI (addN (c - (baseT T a).2) (baseT T b).2).1 = true
  rw [g4.1]
  exact g4.2
theorem diff_ext {T : List Nd} (h : Well T) {a b d most : Int} (ha : Shd T a) (hb : Shd T b) (hne : (baseT T a).1 ≠ (baseT T b).1) (he : (putT T (diffNd (baseT T a).1 (baseT T b).1 d) most).e = 0) :
    Ext T (putT T (diffNd (baseT T a).1 (baseT T b).1 d) most).T ∧ diffNd (baseT T a).1 (baseT T b).1 d ∈ (putT T (diffNd (baseT T a).1 (baseT T b).1 d) most).T ∧ 0 ≤ (putT T (diffNd (baseT T a).1 (baseT T b).1 d) most).id ∧ (putT T (diffNd (baseT T a).1 (baseT T b).1 d) most).id < (putT T (diffNd (baseT T a).1 (baseT T b).1 d) most).T.length ∧ ndAt (putT T (diffNd (baseT T a).1 (baseT T b).1 d) most).T (putT T (diffNd (baseT T a).1 (baseT T b).1 d) most).id = diffNd (baseT T a).1 (baseT T b).1 d ∧ ∀ m ∈ (putT T (diffNd (baseT T a).1 (baseT T b).1 d) most).T, m ∈ T ∨ m = diffNd (baseT T a).1 (baseT T b).1 d := by
  have ba := base_own h.core h.sum ha
  have bb := base_own h.core h.sum hb
  have sa : (ndAt T (baseT T a).1).sort = 1 := by
    have := ba.1
    unfold ownB at this
    simp only [Bool.and_eq_true, decide_eq_true_eq] at this
    exact this.2
  have sb : (ndAt T (baseT T b).1).sort = 1 := by
    have := bb.1
    unfold ownB at this
    simp only [Bool.and_eq_true, decide_eq_true_eq] at this
    exact this.2
  refine putT_ext h (fun ho => absurd ho (by show (12 : Int) ≠ 11; decide)) ?_ ?_ (fun ho => absurd ho (by show (12 : Int) ≠ 6; decide)) he
  · unfold fitB diffNd
    simp [ba.1, bb.1, hne]
  · intro _
    show opSort 12 (ndAt T (baseT T a).1).sort (ndAt T (baseT T b).1).sort _ = some 0
    unfold opSort
    simp [sa, sb]
structure Put1 (T T' : List Nd) (id : Int) : Prop where
  ext : Ext T T'
  lo : 0 ≤ id
  hi : id < T'.length
  seven : ∀ m ∈ T', m.op = 7 → m ∈ T
theorem Put1.refl {T : List Nd} (h : Well T) {id : Int} (h0 : 0 ≤ id) (h1 : id < T.length) : Put1 T T id := ⟨.refl h, h0, h1, fun _ hm _ => hm⟩
theorem Put1.trans {T T' T2 : List Nd} {i j : Int} (h : Put1 T T' i) (k : Put1 T' T2 j) : Put1 T T2 j := ⟨h.ext.trans k.ext, k.lo, k.hi, fun m hm h7 => h.seven m (k.seven m hm h7) h7⟩
theorem put1_of {T : List Nd} (h : Well T) {n : Nd} {most : Int} (ho : ordN T n) (hf : fitB T n = true) (hr : srtN T n) (hq : noeqN T n) (h7 : n.op ≠ 7) (he : (putT T n most).e = 0) : Put1 T (putT T n most).T (putT T n most).id ∧ ndAt (putT T n most).T (putT T n most).id = n := by
  obtain ⟨h1, _, h3, h4, h5, h6⟩ := putT_ext h ho hf hr hq he
  exact ⟨⟨h1, h3, h4, fun m hm h => (h6 m hm).resolve_right fun e => h7 (by rw [← e]; exact h)⟩, h5⟩
theorem true_at {T : List Nd} (h : Well T) : ndAt T 0 = trueNd := ndAt_some (i := 0) h.core.ok.t0
theorem leT_put1 {T : List Nd} (h : Well T) {a b c most : Int} (he : (leT T a b c most).e = 0) : Put1 T (leT T a b c most).T (leT T a b c most).id ∧ (ndAt (leT T a b c most).T (leT T a b c most).id).sort = 0 := by
  have hlen := h.core.ok.len
  unfold leT at he ⊢
  split at he
  · rename_i h1
    exact absurd he h1
  rename_i h1
  rw [if_neg h1]
  obtain ⟨s1, s2, e1, e2, _, _⟩ := diffT_e (Classical.not_not.1 h1)
  split at he
  · rename_i h2
    rw [if_pos h2]
    rw [e1, e2] at h2 he ⊢
    obtain ⟨g1, _, g3, g4, g5, g6⟩ := diff_ext h s1 s2 h2 he
    exact ⟨⟨g1, g3, g4, fun m hm h => (g6 m hm).resolve_right fun e => by rw [e] at h; exact absurd h (by show (12 : Int) ≠ 7; decide)⟩, by show (ndAt _ _).sort = 0; rw [g5]; rfl⟩
  · rename_i h2
    rw [if_neg h2]
    split at he
    · rename_i h3
      rw [if_pos h3]
      exact ⟨.refl h (Int.le_refl _) (by show (0 : Int) < T.length; omega), by show (ndAt T 0).sort = 0; rw [true_at h]; rfl⟩
    · rename_i h3
      rw [if_neg h3]
      have := put1_of (n := notNd 0) h (fun ho => absurd ho (by show (1 : Int) ≠ 11; decide)) (by unfold fitB notNd; simp [true_at h, trueNd]) (fun _ => by
        show opSort 1 (ndAt T 0).sort _ _ = some 0
        rw [true_at h]
        rfl) (fun ho => absurd ho (by show (1 : Int) ≠ 6; decide)) (by show (1 : Int) ≠ 7; decide) he
      exact ⟨this.1, by show (ndAt _ _).sort = 0; rw [this.2]; rfl⟩
theorem leT_mem0 {T : List Nd} (h : Well T) {a b most : Int} (he : (leT T a b 0 most).e = 0) (hne : (baseT T a).1 ≠ (baseT T b).1) : mayI (difN T a b) = true ∧ diffNd (baseT T a).1 (baseT T b).1 (difN T a b) ∈ (leT T a b 0 most).T := by
  unfold leT at he ⊢
  split at he
  · rename_i h1
    exact absurd he h1
  rename_i h1
  rw [if_neg h1]
  obtain ⟨s1, s2, e1, e2, e3, e4⟩ := diffT_e (Classical.not_not.1 h1)
  have e5 : (diffT T a b 0).d = difN T a b := by
    rw [e3]
    unfold difN
    omega
  rw [e5] at e4
  rw [if_pos (by rw [e1, e2]; exact hne)] at he ⊢
  rw [e1, e2, e5] at he ⊢
  exact ⟨e4, (diff_ext h s1 s2 hne he).2.1⟩
theorem Ext.base {T T' : List Nd} (h : Ext T T') {x : Int} (h0 : 0 ≤ x) (h1 : x < T.length) : baseT T' x = baseT T x := by
  obtain ⟨S, rfl⟩ := h.ext
  exact baseT_append h0 h1
theorem Ext.dif {T T' : List Nd} (h : Ext T T') {x y : Int} (hx : 0 ≤ x ∧ x < T.length) (hy : 0 ≤ y ∧ y < T.length) : difN T' x y = difN T x y := by
  unfold difN
  rw [h.base hx.1 hx.2, h.base hy.1 hy.2]
theorem iteN.ext {T T' : List Nd} (h : Ext T T') {i a s : Int} (hi : 0 ≤ i ∧ i < T.length) (ha : 0 ≤ a ∧ a < T.length) (k : iteN T i a s) : iteN T' i a s := by
  refine ⟨fun hs => ?_, fun h0 h1 => h.mem (k.2 h0 h1)⟩
  obtain ⟨k1, k2, k3⟩ := k.1 hs
  rw [h.dif hi ha, h.dif ha hi, h.base ha.1 ha.2]
  exact ⟨k1, h.mem k2, h.mem k3⟩
theorem IteOk.put1 {T T' : List Nd} {id : Int} (h : IteOk T) (hw : Well T) (hp : Put1 T T' id) : IteOk T' := fun i n hn h7 => by
  have hmem := hp.seven n (List.mem_of_getElem? hn) h7
  obtain ⟨k, hk, hkn, hst⟩ := hw.core.ok.stands hmem
  have hki : k = i := by
    obtain ⟨hi, e1⟩ := List.getElem?_eq_some_iff.1 hn
    have hkT : k < T'.length := Nat.lt_of_lt_of_le hk hp.ext.len
    have e2 : T'[k] = n := by
      obtain ⟨S, rfl⟩ := hp.ext.ext
      rw [List.getElem_append_left hk]
      exact (List.getElem?_eq_some_iff.1 hkn).2
    exact (List.getElem_inj (i := k) (j := i) (h₀ := hkT) (h₁ := hi) hp.ext.well.core.ok.once).1 (by rw [e1, e2])
  subst hki
  have hl := hst.len_of (lo := 3) (by rw [h7]; decide)
  have a1 := hst.arg_lt 1 (by omega) (by rw [hl]; decide)
  have a2 := hst.arg_lt 2 (by omega) (by rw [hl]; decide)
  obtain ⟨k1, k2⟩ := h k n hkn h7
  exact ⟨k1.ext hp.ext ⟨by omega, by omega⟩ ⟨a1.1, by have := a1.2; show n.arg 1 < _; omega⟩, k2.ext hp.ext ⟨by omega, by omega⟩ ⟨a2.1, by have := a2.2; show n.arg 2 < _; omega⟩⟩
end Go.Proofs.YtlipnnibagidiaaGreat
namespace Go.Proofs.YtlipnnibagidiaaGreat
def opNd (op len a b c s : Int) : Nd := ⟨op, len, a, b, c, s, 0, 0⟩
theorem op_put1 {T : List Nd} (h : Well T) {op len a b c s most : Int} (hop : op = 1 ∨ op = 2 ∨ op = 3 ∨ op = 6) (hs : opSort op (ndAt T a).sort (ndAt T b).sort (ndAt T c).sort = some s)
    (h1 : op = 1 → (ndAt T a).op ≠ 1) (h6 : op = 6 → (ndAt T a).sort ≠ 1 ∧ ((ndAt T a).sort = 0 ∨ a ≠ b)) (he : (putT T (opNd op len a b c s) most).e = 0) :
    Put1 T (putT T (opNd op len a b c s) most).T (putT T (opNd op len a b c s) most).id ∧ ndAt (putT T (opNd op len a b c s) most).T (putT T (opNd op len a b c s) most).id = opNd op len a b c s := by
  refine put1_of h (fun ho => ?_) ?_ (fun _ => hs) (fun ho => ?_) ?_ he
  · have : op = 11 := ho
    omega
  · unfold fitB opNd
    dsimp only
    rcases hop with rfl | rfl | rfl | rfl
    · simp [h1 rfl]
    · simp
    · simp
    · obtain ⟨g1, g2⟩ := h6 rfl
      simp [g1]
      rcases g2 with g2 | g2
      · exact .inl g2
      · exact .inr g2
  · exact (h6 ho).1
  · show op ≠ 7
    omega
structure Img (T T' : List Nd) (id : Int) : Prop where
  ext : Ext T T'
  lo : 0 ≤ id
  hi : id < T'.length
  ite : IteOk T'
theorem Put1.img {T T' : List Nd} {id : Int} (h : Put1 T T' id) (hw : Well T) (hi : IteOk T) : Img T T' id := ⟨h.ext, h.lo, h.hi, hi.put1 hw h⟩
theorem Img.trans {T T' T2 : List Nd} {i j : Int} (h : Img T T' i) (k : Img T' T2 j) : Img T T2 j := ⟨h.ext.trans k.ext, k.lo, k.hi, k.ite⟩
theorem Img.refl {T : List Nd} (h : Well T) (hi : IteOk T) {id : Int} (h0 : 0 ≤ id) (h1 : id < T.length) : Img T T id := ⟨.refl h, h0, h1, hi⟩
theorem base_ne {T : List Nd} (h : Well T) {i a : Int} (hi : 0 ≤ i ∧ i < T.length) (h7 : (ndAt T i).op = 7) (ha : 0 ≤ a ∧ a < i) : (baseT T i).1 = i ∧ (baseT T a).1 ≠ i := by
  have e : baseT T i = (i, 0) := by unfold baseT; rw [h7, if_neg (by decide), if_neg (by decide)]
  refine ⟨by rw [e], fun hb => ?_⟩
  unfold baseT at hb
  split at hb
  · rename_i h11
    obtain ⟨k, hk, hkn, hst⟩ := h.core.ok.stands (ndAt_mem (T := T) ha.1 (by omega))
    have hb' : (ndAt T a).a0 = i := hb
    have h1 := hst.one (.inr h11)
    have hka : (k : Int) = a := by
      obtain ⟨ak, rfl⟩ : ∃ n : Nat, a = n := ⟨a.toNat, by omega⟩
      rw [ndAt_nat (by omega)] at hkn
      obtain ⟨_, e2⟩ := List.getElem?_eq_some_iff.1 hkn
      have := (List.getElem_inj (i := k) (j := ak) (h₀ := hk) (h₁ := by omega) h.core.ok.once).1 e2
      omega
    omega
  · split at hb
    · have hb' : (1 : Int) = i := hb
      rw [← hb', show ndAt T 1 = zeroNd from ndAt_some (i := 1) h.core.ok.t1] at h7
      exact absurd h7 (by show (10 : Int) ≠ 7; decide)
    · have hb' : a = i := hb
      omega
theorem behind_int {T : List Nd} (h : Well T) {i a most : Int} (hi : 0 ≤ i ∧ i < T.length) (h7 : (ndAt T i).op = 7) (ha : 0 ≤ a ∧ a < i) (he : (leT T i a 0 most).e = 0) (he2 : (leT (leT T i a 0 most).T a i 0 most).e = 0) :
    Put1 T (leT (leT T i a 0 most).T a i 0 most).T (leT (leT T i a 0 most).T a i 0 most).id ∧ iteN (leT (leT T i a 0 most).T a i 0 most).T i a 1 := by
  obtain ⟨bi, ba⟩ := base_ne h hi h7 ha
  have p1 := (leT_put1 h he).1
  have m1 := leT_mem0 h he (by rw [bi]; exact fun e => ba e.symm)
  generalize (leT T i a 0 most).T = T1 at *
  have hw1 := p1.ext.well
  have hi1 : 0 ≤ i ∧ i < (T1.length : Int) := ⟨hi.1, by have := p1.ext.len; omega⟩
  have h71 : (ndAt T1 i).op = 7 := by rw [p1.ext.at_ hi.1 hi.2]; exact h7
  obtain ⟨bi1, ba1⟩ := base_ne hw1 hi1 h71 ha
  have p2 := (leT_put1 hw1 he2).1
  have m2 := leT_mem0 hw1 he2 (by rw [bi1]; exact ba1)
  generalize (leT T1 a i 0 most).T = T2 at *
  have haT : 0 ≤ a ∧ a < (T.length : Int) := ⟨ha.1, by omega⟩
  have haT1 : 0 ≤ a ∧ a < (T1.length : Int) := ⟨ha.1, by omega⟩
  refine ⟨p1.trans p2, fun _ => ⟨?_, ?_, ?_⟩, fun _ hn => absurd rfl hn⟩
  · rw [p2.ext.dif hi1 haT1, p1.ext.dif hi haT]
    exact m1.1
  · have := p2.ext.mem m1.2
    rw [bi] at this
    rw [p2.ext.base haT1.1 haT1.2, p1.ext.base haT.1 haT.2, p2.ext.dif hi1 haT1, p1.ext.dif hi haT]
    exact this
  · have := m2.2
    rw [bi1] at this
    rw [p2.ext.base haT1.1 haT1.2, p2.ext.dif haT1 hi1]
    exact this
theorem behind_own {T : List Nd} (h : Well T) {i a most s : Int} (ha : 0 ≤ a ∧ a < i) (hs : (ndAt T i).sort = s ∧ (ndAt T a).sort = s) (h1 : s ≠ 1) (he : (putT T (eqNd (min i a) (max i a)) most).e = 0) :
    Put1 T (putT T (eqNd (min i a) (max i a)) most).T (putT T (eqNd (min i a) (max i a)) most).id ∧ iteN (putT T (eqNd (min i a) (max i a)) most).T i a s := by
  have em : min i a = a := by omega
  have ex : max i a = i := by omega
  rw [em, ex] at he ⊢
  have he' : (putT T (opNd 6 2 a i 0 0) most).e = 0 := he
  have hp := op_put1 h (op := 6) (len := 2) (a := a) (b := i) (c := 0) (s := 0) (.inr (.inr (.inr rfl))) (by unfold opSort; simp [hs.1, hs.2]) (fun e => absurd e (by decide)) (fun _ => ⟨by rw [hs.2]; exact h1, .inr (by omega)⟩) he'
  refine ⟨hp.1, fun e => absurd e h1, fun _ _ => ?_⟩
  rw [em, ex]
  have h9 := ndAt_mem hp.1.lo hp.1.hi
  rw [hp.2] at h9
  exact h9
theorem ite_img {T T1 T2 T3 : List Nd} (h : Well T) (hI : IteOk T) {i a b c s j k : Int} (h1 : Ext T T1) (hm : ∀ m ∈ T1, m ∈ T ∨ m = opNd 7 3 a b c s) (hi : 0 ≤ i ∧ i < T1.length) (hat : ndAt T1 i = opNd 7 3 a b c s)
    (p2 : Put1 T1 T2 j) (n2 : iteN T2 i b s) (p3 : Put1 T2 T3 k) (n3 : iteN T3 i c s) (hb : 0 ≤ b ∧ b < i) : Img T T3 i := by
  have e13 : Put1 T1 T3 k := p2.trans p3
  have hi3 : i < (T3.length : Int) := by have := e13.ext.len; omega
  refine ⟨h1.trans e13.ext, hi.1, hi3, fun q n hn h7 => ?_⟩
  have hmem1 := e13.seven n (List.mem_of_getElem? hn) h7
  rcases hm n hmem1 with hmem | rfl
  · obtain ⟨r, hr, hrn, hst⟩ := h.core.ok.stands hmem
    have hrq : r = q := by
      obtain ⟨hq, e1⟩ := List.getElem?_eq_some_iff.1 hn
      have hrT : r < T3.length := Nat.lt_of_lt_of_le hr (h1.trans e13.ext).len
      have e2 : T3[r] = n := by
        obtain ⟨S, hS⟩ := (h1.trans e13.ext).ext
        subst hS
        rw [List.getElem_append_left hr]
        exact (List.getElem?_eq_some_iff.1 hrn).2
      exact (List.getElem_inj (i := r) (j := q) (h₀ := hrT) (h₁ := hq) e13.ext.well.core.ok.once).1 (by rw [e1, e2])
    subst hrq
    have hl := hst.len_of (lo := 3) (by rw [h7]; decide)
    have a1 := hst.arg_lt 1 (by omega) (by rw [hl]; decide)
    have a2 := hst.arg_lt 2 (by omega) (by rw [hl]; decide)
    obtain ⟨k1, k2⟩ := hI r n hrn h7
    have hx := h1.trans e13.ext
    exact ⟨k1.ext hx ⟨by omega, by omega⟩ ⟨a1.1, by have := a1.2; show n.arg 1 < _; omega⟩, k2.ext hx ⟨by omega, by omega⟩ ⟨a2.1, by have := a2.2; show n.arg 2 < _; omega⟩⟩
  · have hqi : (q : Int) = i := by
      obtain ⟨iN, rfl⟩ : ∃ n : Nat, i = n := ⟨i.toNat, by omega⟩
      obtain ⟨hq, e1⟩ := List.getElem?_eq_some_iff.1 hn
      have e2 : T3[iN]'(by omega) = opNd 7 3 a b c s := by
        have := e13.ext.at_ hi.1 hi.2
        rw [hat, ndAt_nat (by omega)] at this
        exact this
      have := (List.getElem_inj (i := q) (j := iN) (h₀ := hq) (h₁ := by omega) e13.ext.well.core.ok.once).1 (by rw [e1, e2])
      omega
    rw [hqi]
    refine ⟨?_, n3⟩
    have hi2 : i < (T2.length : Int) := by have := p2.ext.len; omega
    exact n2.ext p3.ext ⟨hi.1, hi2⟩ ⟨hb.1, by show b < _; omega⟩
end Go.Proofs.YtlipnnibagidiaaGreat
namespace Go.Proofs.YtlipnnibagidiaaGreat
def manyM (op : Int) : Int := if op = 0 ∨ op = 10 then 0 else if op = 1 ∨ op = 11 then 1 else if op = 7 then 3 else if 2 ≤ op ∧ op ≤ 12 then 2 else -1
def opL (op : Int) (L : List Int) : Option Int := if (L.length : Int) = manyM op then opSort op (L[0]?.getD 0) (L[1]?.getD 0) (L[2]?.getD 0) else none
def opNdL (op : Int) (V : List Int) (s : Int) : Nd := opNd op V.length (V[0]?.getD 0) (V[1]?.getD 0) (V[2]?.getD 0) s
def putL (T : List Nd) (op : Int) (V : List Int) (most : Int) : PutR :=
  match opL op (V.map fun x => (ndAt T x).sort) with
  | none => ⟨[], 0, 33⟩
  | some s => putT T (opNdL op V s) most
structure ImgS (T T' : List Nd) (id s : Int) : Prop where
  img : Img T T' id
  srt : (ndAt T' id).sort = s
theorem ImgS.refl {T : List Nd} (h : Well T) (hi : IteOk T) {id : Int} (h0 : 0 ≤ id) (h1 : id < T.length) : ImgS T T id (ndAt T id).sort := ⟨.refl h hi h0 h1, rfl⟩
theorem ImgS.trans {T T' T2 : List Nd} {i j s s2 : Int} (h : ImgS T T' i s) (k : ImgS T' T2 j s2) : ImgS T T2 j s2 := ⟨h.img.trans k.img, k.srt⟩
theorem ImgS.true {T : List Nd} (h : Well T) (hi : IteOk T) : ImgS T T 0 0 := by
  have := ImgS.refl h hi (id := 0) (Int.le_refl _) (by have := h.core.ok.len; omega)
  rwa [true_at h] at this
theorem leT_img {T : List Nd} (h : Well T) (hi : IteOk T) {a b c most : Int} (he : (leT T a b c most).e = 0) : ImgS T (leT T a b c most).T (leT T a b c most).id 0 := by
  obtain ⟨p, s⟩ := leT_put1 h he
  exact ⟨p.img h hi, s⟩
theorem putL_img {T : List Nd} (h : Well T) (hi : IteOk T) {op : Int} {V : List Int} {most : Int} (hop : op = 1 ∨ op = 2 ∨ op = 3 ∨ op = 6)
    (h1 : op = 1 → (ndAt T (V[0]?.getD 0)).op ≠ 1) (h6 : op = 6 → (ndAt T (V[0]?.getD 0)).sort ≠ 1 ∧ ((ndAt T (V[0]?.getD 0)).sort = 0 ∨ V[0]?.getD 0 ≠ V[1]?.getD 0)) (he : (putL T op V most).e = 0) :
    ImgS T (putL T op V most).T (putL T op V most).id 0 ∧ Put1 T (putL T op V most).T (putL T op V most).id ∧ ndAt (putL T op V most).T (putL T op V most).id = opNdL op V 0 := by
  unfold putL at he ⊢
  cases ho : opL op (V.map fun x => (ndAt T x).sort) with
  | none => rw [ho] at he; cases he
  | some s =>
    rw [ho] at he
    dsimp only at he ⊢
    unfold opL at ho
    split at ho
    · rename_i hl
      rw [List.length_map] at hl
      have hs : opSort op (ndAt T (V[0]?.getD 0)).sort (ndAt T (V[1]?.getD 0)).sort (ndAt T (V[2]?.getD 0)).sort = some s ∧ s = 0 := by
        rcases hop with rfl | rfl | rfl | rfl
        · obtain ⟨a, rfl⟩ : ∃ a, V = [a] := by
            match V, hl with
            | [a], _ => exact ⟨a, rfl⟩
          have e : opSort 1 (ndAt T a).sort (ndAt T 0).sort (ndAt T 0).sort = some s := ho
          refine ⟨e, ?_⟩
          unfold opSort at e
          simp at e
          exact e.2.symm
        all_goals
          obtain ⟨a, b, rfl⟩ : ∃ a b, V = [a, b] := by
            match V, hl with
            | [a, b], _ => exact ⟨a, b, rfl⟩
          have e := ho
          simp only [List.map_cons, List.map_nil, List.getElem?_cons_zero, List.getElem?_cons_succ, Option.getD_some] at e
          unfold opSort at e ⊢
          simp at e ⊢
          obtain ⟨e1, e2⟩ := e
          subst e2
          first | exact e1 | exact ⟨e1, rfl⟩ | simp [e1]
      obtain ⟨hs, rfl⟩ := hs
      have := op_put1 h hop hs h1 h6 he
      exact ⟨⟨this.1.img h hi, by show (ndAt _ _).sort = 0; rw [show opNdL op V 0 = opNd op V.length (V[0]?.getD 0) (V[1]?.getD 0) (V[2]?.getD 0) 0 from rfl, this.2]; rfl⟩, this.1, this.2⟩
    · cases ho
end Go.Proofs.YtlipnnibagidiaaGreat
namespace Go.Proofs.YtlipnnibagidiaaGreat
def argSorts (T : List Nd) (n : Nd) : List Int := (List.range n.len.toNat).map fun j => (ndAt T (n.arg j)).sort
def fitT (T : List Nd) : Prop := ∀ n ∈ T, n.op ≠ 13 → opL n.op (argSorts T n) = some n.sort
theorem many_len {n : Nd} {a : Int} (h : Stands n a) (h13 : n.op ≠ 13) : n.len = manyM n.op := by
  have hl := fun lo => h.len_of (lo := lo)
  rcases arity_ops h with e | e | e | e | e | e | e | e | e | e | e | e | e | e
  all_goals rw [e] at hl ⊢
  · exact (hl 0 (by decide)).trans rfl
  · exact (hl 1 (by decide)).trans rfl
  · exact (hl 2 (by decide)).trans rfl
  · exact (hl 2 (by decide)).trans rfl
  · exact (hl 2 (by decide)).trans rfl
  · exact (hl 2 (by decide)).trans rfl
  · exact (hl 2 (by decide)).trans rfl
  · exact (hl 3 (by decide)).trans rfl
  · exact (hl 2 (by decide)).trans rfl
  · exact (hl 2 (by decide)).trans rfl
  · exact (hl 0 (by decide)).trans rfl
  · exact (hl 1 (by decide)).trans rfl
  · exact (hl 2 (by decide)).trans rfl
  · exact absurd e h13
end Go.Proofs.YtlipnnibagidiaaGreat

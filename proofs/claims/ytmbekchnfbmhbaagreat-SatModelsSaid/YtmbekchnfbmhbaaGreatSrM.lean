/- Solve. -/
import Derived.Test.YtmbekchnfbmhbaaGreatSrL
namespace Go.Proofs.YtmbekchnfbmhbaaGreat
open Go.RowKit Go.Lib

theorem restarts_new (A : Option Addr) (n c : Nat) (w : World) :
    Calls Tryz.prog 20 #[.slice A n c] w fun e w' => e = .returned (.func (.func 31) #[] #[.pointer (some ⟨w.heap.size + 1, 0, none⟩), .pointer (some ⟨w.heap.size, 0, none⟩)]) ∧ w' = (w.alloc (.cells #[.slice A n c] 23)).alloc (.cells #[.int .i64 0] 3) := by
  go_enter Tryz.func20, Tryz.ntmps20
  go_wp2
  go_ret
  exact ⟨rfl, rfl⟩
theorem clone_form {w : World} {A : Option Addr} {rows : List RowT} (cap : Nat) (h : Grid w A rows) :
    Calls Tryz.prog 17 #[.slice A rows.length cap] w fun e w' => ∃ VA vc, e = .returned (.slice VA rows.length vc) ∧ Gath w' w.heap.size (.slice VA rows.length vc) rows ∧ Below w.heap.size w w' := by
  refine (clone_gath cap h).mono ?_
  rintro e w' ⟨v, rfl, hg, hb⟩
  rcases hg with ho | ⟨rfl, A2, rfl⟩
  · obtain ⟨VA, vc, rfl⟩ := own_slice ho
    exact ⟨VA, vc, rfl, .inl ho, hb⟩
  · exact ⟨A2, 0, rfl, .inr ⟨rfl, A2, rfl⟩, hb⟩
theorem i8_info : (Tryz.prog.info? 26).map (fun i => (i.zero, i.size, i.bytes)) = some (some (.int .i8 0), 1, 1) := by kernel_rfl
def zeros8 (n : Nat) : Array Value := ((List.replicate n (0 : Int)).map (Value.int .i8)).toArray

/-- The search, made. -/
def MadeP (w1 : World) (n : Nat) (R0 : List RowT) (s10 : Value) (wc : World) : Prop :=
  ∃ b S vl vp vs ph, s10 = .pointer (some ⟨b.bs, 0, none⟩) ∧ b.b3 = none ∧ b.H0 = w1.heap.size ∧ SS wc b n S vl vp vs 0 ⟨n, [], 0⟩ R0 [] [] ph ∧ Below w1.heap.size w1 wc
theorem Off.of_low {w1 w : World} {r : RowT} (h : Row .i64 w1 r.1 r.2.2) (hn : r.1 = none → r.2.1 = 0) (hb : Below w1.heap.size w1 w) {Z : Nat → Prop} (hZ : ∀ k, Z k → w1.heap.size ≤ k) : Off w Z r := by
  refine ⟨h.below hb, hn, fun h0 a ha hz => ?_⟩
  obtain ⟨b, off, e, hlt, _⟩ := h.at_.resolve_left (by omega)
  rw [ha] at e
  injection e with e
  have := hZ _ hz
  rw [e] at this
  have : w1.heap.size ≤ b := this
  omega
theorem ss_made {w1 W2 w2 W3 w3 W4 w4 W5 wE : World} {n bt ba bh gp vc cs : Nat} {VA SA : Option Addr} {S : Nat → Prop} {R0 : List RowT} {ss : List Int} {H2 H3 H4 : Nat} {LA : Option Addr}
    (hg : Grid w1 LA R0) (hs : Row .i64 w1 SA ss) (hsn : SA = none → cs = 0) (hsc : ss.length ≤ cs) (hn : n ≤ 400)
    (a0 : Below w1.heap.size w1 W2) (ho2 : Gath w2 H2 (.slice VA R0.length vc) R0) (hH2 : w1.heap.size ≤ H2) (a1 : Below W2.heap.size W2 w2) (b0 : Below w2.heap.size w2 W3)
    (ht : TR w3 H3 bt ba (.slice none 0 0) ⟨n, [], 0⟩) (hbt : W3.heap.size ≤ bt) (hba : W3.heap.size ≤ ba) (b1 : Below W3.heap.size W3 w3) (c0 : Below w3.heap.size w3 W4)
    (hh : HH w4 H4 bh n S []) (hH4 : w1.heap.size ≤ H4) (hS : ∀ k, S k → W4.heap.size ≤ k) (c1 : Below W4.heap.size W4 w4) (d0 : Below w4.heap.size w4 W5)
    (e0 : Below (W5.heap.size + 2) ((W5.alloc (.cells #[.slice SA ss.length cs] 23)).alloc (.cells #[.int .i64 0] 3)) wE) (hp : Blk wE gp 26 (zeros8 n)) (hgp : w1.heap.size ≤ gp) :
    MadeP w1 n R0 (.pointer (some ⟨wE.heap.size, 0, none⟩)) (wE.alloc (.cells #[.int .i64 n, .int .i64 0, .slice VA R0.length vc, .pointer (some ⟨bt, 0, none⟩), .pointer (some ⟨bh, 0, none⟩), .slice (some ⟨gp, 0, none⟩) n n, .slice none 0 0, .func (.func 31) #[] #[.pointer (some ⟨W5.heap.size + 1, 0, none⟩), .pointer (some ⟨W5.heap.size, 0, none⟩)]] 52)) := by
  have s1 := a0.size
  have s2 := a1.size
  have s3 := b0.size
  have s4 := b1.size
  have s5 := c0.size
  have s6 := c1.size
  have s7 := d0.size
  have s8 := e0.size
  simp only [World.size_alloc] at s8
  have f5 : Below w4.heap.size w4 wE := (d0.trans (((Below.refl W5.heap.size W5).alloc (Nat.le_refl _) _).alloc (by simp) _ |>.mono s7)).trans (e0.mono (by omega))
  have f4 : Below w3.heap.size w3 wE := c0.trans ((c1.mono s5).trans (f5.mono (by omega)))
  have f3 : Below w2.heap.size w2 wE := b0.trans ((b1.mono s3).trans (f4.mono (by omega)))
  have f2 : Below w1.heap.size w1 wE := a0.trans ((a1.mono s1).trans (f3.mono (by omega)))
  generalize hcs : (#[.int .i64 n, .int .i64 0, .slice VA R0.length vc, .pointer (some ⟨bt, 0, none⟩), .pointer (some ⟨bh, 0, none⟩), .slice (some ⟨gp, 0, none⟩) n n, .slice none 0 0, .func (.func 31) #[] #[.pointer (some ⟨W5.heap.size + 1, 0, none⟩), .pointer (some ⟨W5.heap.size, 0, none⟩)]] : Array Value) = C
  have hal : Below wE.heap.size wE (wE.alloc (.cells C 52)) := (Below.refl _ wE).alloc (Nat.le_refl _) _
  have hF : Below w1.heap.size w1 (wE.alloc (.cells C 52)) := f2.trans (hal.mono f2.size)
  have hC : Blk (wE.alloc (.cells C 52)) wE.heap.size 52 C := Blk.new _ _ _
  have hT : TT (wE.alloc (.cells C 52)) w1.heap.size bt ba ⟨n, [], 0⟩ := by
    have h1 : TT w3 w1.heap.size bt ba ⟨n, [], 0⟩ := ⟨_, ht.blk, ht.at_, World.ownsRow_nil _ _ _ _, by omega, by omega, ht.ok⟩
    exact h1.below (f4.trans (hal.mono f4.size))
  have hbtl := hT.lt
  have hbtw : bt < w3.heap.size := ht.blk.lt
  have hbaw : ba < w3.heap.size := ht.at_.lt
  have hHp : HH (wE.alloc (.cells C 52)) w1.heap.size bh n S [] := by
    obtain ⟨va, vr, vt, la, lp, hp, ho, hA, hSS⟩ := hh
    have hp' : HP w4 w1.heap.size bh va vr vt la [] lp := ⟨hp.blk, ⟨own_lower hp.act.own hH4, hp.act.len⟩, ⟨own_lower hp.rows.own hH4, hp.rows.len⟩, ⟨own_lower hp.at_.own hH4, hp.at_.len⟩, hp.ar, hp.at2, hp.rt, Nat.le_trans hH4 hp.hb⟩
    have h1 : HH w4 w1.heap.size bh n S [] := ⟨va, vr, vt, la, lp, hp', ho, hA, hSS⟩
    exact h1.kept (Kept.of_below (S := fun _ => False) (f5.trans (hal.mono f5.size))) (fun _ e => e.elim)
  have hSlt : ∀ k, S k → k < w4.heap.size := fun k hk => (hh.low hk).2
  have q2 : Blk (wE.alloc (.cells C 52)) W5.heap.size 23 #[.slice SA ss.length cs] := (((Blk.new W5 23 #[.slice SA ss.length cs]).alloc (.cells #[.int .i64 0] 3)).below e0 (by omega)).alloc _
  have q1 : Blk (wE.alloc (.cells C 52)) (W5.heap.size + 1) 3 #[.int .i64 0] := ((Blk.new_at (w := W5.alloc (.cells #[.slice SA ss.length cs] 23)) (by simp) _ _).below e0 (by omega)).alloc _
  have hP : (wE.alloc (.cells C 52)).ownsRow w1.heap.size 26 1 (.slice (some ⟨gp, 0, none⟩) n n) n ((List.replicate n (0 : Int)).map (Value.int .i8)) :=
    ⟨by simp, .inr ⟨gp, n, _, rfl, hgp, hp.alloc _, Nat.le_refl _, by unfold maxLen; omega, by simp [zeros8], by simp [zeros8, List.take_of_length_le]⟩⟩
  obtain ⟨vl, vb, hvl, hl, hvb, hlb⟩ : ∃ vl vb, (vb : Option Value).getD vl = .slice VA R0.length vc ∧ (wE.alloc (.cells C 52)).ownsRow w1.heap.size 23 1 vl R0.length (R0.map encR) ∧ (∀ v, vb = some v → R0 = [] ∧ ∃ A, v = .slice A 0 0) ∧ ∀ k, vl.ownBlock = some k → k < w2.heap.size := by
    rcases ho2 with ho | ⟨rfl, A, e⟩
    · exact ⟨_, none, rfl, own_lower (own_kept ho (Kept.of_below (S := fun _ => False) (f3.trans (hal.mono f3.size))) (fun _ _ e => e)) hH2, (fun v e => by cases e), fun k hk => (ho.lt k hk).2⟩
    · exact ⟨.slice none 0 0, some (.slice A 0 0), e.symm, World.ownsRow_nil _ _ _ _, (fun v e => by injection e with e; exact ⟨rfl, A, e.symm⟩), (fun k hk => by cases hk)⟩
  have hZ : ∀ k, Zs (wE.alloc (.cells C 52)) ⟨w1.heap.size, wE.heap.size, bt, ba, bh, W5.heap.size + 1, W5.heap.size, none, vb⟩ S vl (.slice (some ⟨gp, 0, none⟩) n n) (.slice none 0 0) k → w1.heap.size ≤ k := by
    rintro k ((e | e | e | e | e | e | e | e | e) | e)
    · rw [e]; exact f2.size
    · rw [e]; exact hbtl.1
    · rw [e]; exact hbtl.2.1
    · have e : k = W5.heap.size + 1 := e
      omega
    · have e : k = W5.heap.size := e
      omega
    · exact (hHp.low e).1
    · exact (hl.lt k e).1
    · exact (hP.lt k e).1
    · cases e
    · exact (hT.lb e).1
  refine ⟨⟨w1.heap.size, wE.heap.size, bt, ba, bh, W5.heap.size + 1, W5.heap.size, none, vb⟩, S, vl, .slice (some ⟨gp, 0, none⟩) n n, .slice none 0 0, List.replicate n 0, rfl, rfl, rfl, ⟨?_, hT, hHp, hl, World.ownsRow_nil _ _ _ _, hP, ?_, ?_, ⟨0, q1⟩, ⟨SA, ss, cs, q2, Off.of_low hs hsn hF hZ, hsc⟩, ?_, ?_, ?_, (fun g _ e => by cases e), ?_, (fun e => by cases e), f2.size, ?_, ?_, by omega, (fun q e => by cases e), hvb⟩, hF⟩
  · show Blk _ wE.heap.size _ #[_, _, (vb : Option Value).getD vl, _, _, _, _, _]
    rw [hvl, hcs]
    exact hC
  · intro x hx
    rw [List.eq_of_mem_replicate hx]
    omega
  · intro r hr
    rw [List.append_nil] at hr
    obtain ⟨k, hk, rfl⟩ := List.mem_iff_getElem.1 hr
    obtain ⟨b, off, _, _, hcell⟩ := hg.at_.resolve_left (by omega)
    exact Off.of_low (hcell k hk).2.1 (hcell k hk).2.2 hF hZ
  · intro e
    have := hS _ e
    have h9 : ba < w3.heap.size := hbaw
    have : W4.heap.size ≤ ba := this
    omega
  · intro e
    have := hSlt _ e
    have : W5.heap.size + 1 < w4.heap.size := this
    omega
  · show ba ≠ W5.heap.size + 1
    omega
  · intro e
    have := hlb _ e
    have : W5.heap.size < w2.heap.size := this
    omega
  · show w1.heap.size ≤ W5.heap.size + 1
    omega
  · show w1.heap.size ≤ W5.heap.size
    omega

end Go.Proofs.YtmbekchnfbmhbaaGreat

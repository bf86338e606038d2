/- The reference's Within. -/
import Derived.Test.YtbgbhfmchpdkcaaEvD
namespace Go.Proofs.Ytbgbhfmchpdkcaa
open Go.RowKit

theorem mem_drop_cons {zs : List Int} {i : Nat} (h : i < zs.length) (x : Int) : (x ∈ zs.drop i) ↔ (zs[i] = x ∨ x ∈ zs.drop (i + 1)) := by
  rw [List.drop_eq_getElem_cons h, List.mem_cons]
  exact or_congr ⟨fun h => h.symm, fun h => h.symm⟩ Iff.rfl
theorem has_ok {w : World} {A : Option Addr} {zs : List Int} (cap : Nat) (h : Row w A zs) (x : Int) :
    Calls Try.prog 39 #[.slice A zs.length cap, .int .i64 x] w fun e w' => e = .returned (.bool (decide (x ∈ zs))) ∧ w = w' := by
  have hlen := h.len
  have H := Lib.hid h
  clear h
  go_enter Try.func39, Try.ntmps39
  go_wp2
  go_loopg [5] zs.length (fun g v wx => w = wx ∧ ∃ i : Nat, i + g = zs.length ∧ v = .int .i64 i ∧ (x ∈ zs ↔ x ∈ zs.drop i))
  case atStart => exact ⟨rfl, 0, by omega, rfl, Iff.rfl⟩
  case round =>
    obtain ⟨rfl, i, hig, rfl, hinv⟩ := hrel
    have HI := Lib.hid hinv
    clear hinv
    cases gk with
    | zero =>
      have d1 : decide ((i : Int) < zs.length) = false := by simp; omega
      have HN := Lib.hid (show decide (x ∈ zs) = false from decide_eq_false (fun hx => by have := HI.out.1 hx; rw [List.drop_eq_nil_of_le (by omega)] at this; cases this))
      go_wp2
      go_ret
      rw [HN.out]
      exact ⟨rfl, rfl⟩
    | succ k =>
      have hin : i < zs.length := by omega
      have d1 : decide ((i : Int) < zs.length) = true := by simp; omega
      obtain ⟨b, off, hA, hb, hcell⟩ := H.out.at_.resolve_left (by omega)
      subst hA
      have c0 := hcell i hin
      have Hdr := Lib.hid (mem_drop_cons hin x)
      have t1 : (0 : Int) ≤ (i : Int) := by omega
      have t2 : (i : Int) < (zs.length : Int) := by omega
      clear hcell
      generalize zs[i] = y at *
      by_cases hp : y = x
      · subst hp
        have HN := Lib.hid (show decide (y ∈ zs) = true from decide_eq_true (HI.out.2 (Hdr.out.2 (.inl rfl))))
        go_wp2
        go_ret
        rw [HN.out]
        exact ⟨rfl, rfl⟩
      · have b1 : (y == x) = false := beq_eq_false_iff_ne.2 hp
        have Hp := Lib.hid hp
        clear hp
        go_wp2
        go_roundg k
        case measure => omega
        case rel => exact ⟨rfl, i + 1, by omega, by go_num, HI.out.trans (Hdr.out.trans ⟨fun h => h.resolve_left Hp.out, .inr⟩)⟩

theorem within15_ok {w : World} {A B : Option Addr} {zs bs : List Int} (cap capb : Nat) (h : Row w A zs) (k : Row w B bs) :
    Calls Try.prog 17 #[.slice A zs.length cap, .slice B bs.length capb] w fun e w' => e = .returned (.bool (zs.all fun x => decide (x ∈ bs))) ∧ w = w' := by
  have hlen := h.len
  have H := Lib.hid h
  have K := Lib.hid k
  clear h k
  go_enter Try.func17, Try.ntmps17
  go_wp2
  go_loopg [5] zs.length (fun g v wx => w = wx ∧ ∃ i : Nat, i + g = zs.length ∧ v = .int .i64 i ∧ (zs.all fun x => decide (x ∈ bs)) = ((zs.drop i).all fun x => decide (x ∈ bs)))
  case atStart => exact ⟨rfl, 0, by omega, rfl, rfl⟩
  case round =>
    obtain ⟨rfl, i, hig, rfl, hinv⟩ := hrel
    have HI := Lib.hid hinv
    clear hinv
    cases gk with
    | zero =>
      have d1 : decide ((i : Int) < zs.length) = false := by simp; omega
      have HN := Lib.hid (show zs.drop i = [] from List.drop_eq_nil_of_le (by omega))
      go_wp2
      go_ret
      rw [HI.out, HN.out]
      exact ⟨rfl, rfl⟩
    | succ n =>
      have hin : i < zs.length := by omega
      have d1 : decide ((i : Int) < zs.length) = true := by simp; omega
      obtain ⟨b, off, hA, hb, hcell⟩ := H.out.at_.resolve_left (by omega)
      subst hA
      have c0 := hcell i hin
      have hdr : ((zs.drop i).all fun x => decide (x ∈ bs)) = (decide (zs[i] ∈ bs) && ((zs.drop (i + 1)).all fun x => decide (x ∈ bs))) := by rw [List.drop_eq_getElem_cons hin, List.all_cons]
      have Hdr := Lib.hid hdr
      have t1 : (0 : Int) ≤ (i : Int) := by omega
      have t2 : (i : Int) < (zs.length : Int) := by omega
      clear hcell hdr
      generalize zs[i] = y at *
      have Kh := has_ok capb K.out y
      cases hp : decide (y ∈ bs) with
      | true =>
        rw [hp] at Kh Hdr
        clear hp
        go_wp2_with (go_at_call 39; (with_reducible refine Kh.mono ?_); rintro e w1 ⟨rfl, rfl⟩)
        go_roundg n
        case measure => omega
        case rel => exact ⟨rfl, i + 1, by omega, by go_num, by rw [HI.out, Hdr.out, Bool.true_and]⟩
      | false =>
        rw [hp] at Kh Hdr
        clear hp
        go_wp2_with (go_at_call 39; (with_reducible refine Kh.mono ?_); rintro e w1 ⟨rfl, rfl⟩)
        go_ret
        rw [HI.out, Hdr.out, Bool.false_and]
        exact ⟨rfl, rfl⟩

end Go.Proofs.Ytbgbhfmchpdkcaa

/- The plain side of wakes: a = b, f(a) = f(b). -/
namespace Go.Proofs.Ytbgbhfmchpdkcaa

def wakT : List Nd := [trueNd, zeroNd, ⟨13, 0, 0, 0, 0, 2, 0, 0⟩, ⟨13, 0, 0, 0, 0, 2, 1, 0⟩, ⟨13, 1, 2, 0, 0, 2, 2, 0⟩, ⟨13, 1, 3, 0, 0, 2, 2, 0⟩, ⟨6, 2, 2, 3, 0, 0, 0, 0⟩, ⟨6, 2, 4, 5, 0, 0, 0, 0⟩]
theorem wak_cases {i : Nat} {n : Nd} (h : wakT[i]? = some n) : i < 8 ∧ n = wakT.getD i default := by
  obtain ⟨h1, h2⟩ := List.getElem?_eq_some_iff.1 h
  refine ⟨by simpa [wakT] using h1, ?_⟩
  rw [List.getD_eq_getElem?_getD, h]
  rfl
theorem wak_stands : ∀ i : Nat, i < 8 → Stands (wakT.getD i default) i := by
  intro i hi
  have hc : i = 0 ∨ i = 1 ∨ i = 2 ∨ i = 3 ∨ i = 4 ∨ i = 5 ∨ i = 6 ∨ i = 7 := by omega
  have arg3 : ∀ (n : Nd) (a : Int), ((0 < n.len → 0 ≤ n.a0 ∧ n.a0 < a) ∧ (n.len ≤ 0 → n.a0 = 0)) → ((1 < n.len → 0 ≤ n.a1 ∧ n.a1 < a) ∧ (n.len ≤ 1 → n.a1 = 0)) → ((2 < n.len → 0 ≤ n.a2 ∧ n.a2 < a) ∧ (n.len ≤ 2 → n.a2 = 0)) → ∀ j : Nat, j < 3 → ((j : Int) < n.len → 0 ≤ n.arg j ∧ n.arg j < a) ∧ (n.len ≤ j → n.arg j = 0) := by
    intro n a h0 h1 h2 j hj
    match j, hj with
    | 0, _ => exact h0
    | 1, _ => exact h1
    | 2, _ => exact h2
  rcases hc with rfl | rfl | rfl | rfl | rfl | rfl | rfl | rfl
  all_goals
    refine ⟨?_, by decide, arg3 _ _ (by decide) (by decide) (by decide), by decide, by decide, by decide⟩
  · exact ⟨0, 0, rfl, by decide, by decide⟩
  · exact ⟨0, 0, rfl, by decide, by decide⟩
  · exact ⟨0, 3, rfl, by decide, by decide⟩
  · exact ⟨0, 3, rfl, by decide, by decide⟩
  · exact ⟨0, 3, rfl, by decide, by decide⟩
  · exact ⟨0, 3, rfl, by decide, by decide⟩
  · exact ⟨2, 2, rfl, by decide, by decide⟩
  · exact ⟨2, 2, rfl, by decide, by decide⟩
theorem wak_ok : TabOk wakT := by
  refine ⟨rfl, rfl, fun i n h => ?_, ?_⟩
  · obtain ⟨h1, rfl⟩ := wak_cases h
    exact wak_stands i h1
  · simp [wakT, trueNd, zeroNd]
theorem wak_kind6 : kindM wakT 6 = 4 := by decide
theorem wak_kind7 : kindM wakT 7 = 4 := by decide
theorem wak_may {x : Int} (h : x = 12 ∨ x = 15) : LitMay wakT x := by
  rcases h with rfl | rfl
  · exact ⟨by decide, by decide, fun n hn => by have : wakT[(12 / 2 : Int).toNat]? = some ⟨6, 2, 2, 3, 0, 0, 0, 0⟩ := rfl; rw [this] at hn; injection hn with hn; subst hn; decide⟩
  · exact ⟨by decide, by decide, fun n hn => by have : wakT[(15 / 2 : Int).toNat]? = some ⟨6, 2, 4, 5, 0, 0, 0, 0⟩ := rfl; rw [this] at hn; injection hn with hn; subst hn; decide⟩
theorem wak_mays {L : List Int} (h : ∀ x ∈ L, x = 12 ∨ x = 15) : MayLits wakT L := ⟨wak_ok, fun x hx => wak_may (h x hx)⟩
theorem wak_told {L : List Int} (h : (12 : Int) ∈ L) : told wakT L 12 := ⟨h, .inl (.inl (by decide))⟩
theorem wak_23 {L : List Int} (h : (12 : Int) ∈ L) : Cg wakT (told wakT L) 2 3 :=
  Cg.side (n := ⟨6, 2, 2, 3, 0, 0, 0, 0⟩) (wak_told h) (by decide) (.inl (by decide)) rfl
theorem wak_45 {L : List Int} (h : (12 : Int) ∈ L) : Cg wakT (told wakT L) 4 5 :=
  Cg.app (i := 4) (k := 5) (n := ⟨13, 1, 2, 0, 0, 2, 2, 0⟩) (m := ⟨13, 1, 3, 0, 0, 2, 2, 0⟩) rfl rfl rfl rfl rfl rfl (fun j hj => by
    have : j = 0 := by simp at hj; omega
    subst this
    exact wak_23 h)
theorem wak_bad : BadL wakT [12, 15] := by
  refine ⟨wak_mays fun x hx => by simpa using hx, .inr ⟨15, ⟨6, 2, 4, 5, 0, 0, 0, 0⟩, ⟨by simp, .inl (.inl (by decide))⟩, by decide, .inl (by decide), rfl, wak_45 (by simp)⟩⟩
def wakF (a : Int) : Int := if a = 6 then 0 else if a = 3 then 2 else if a = 5 then 4 else a
theorem wak_good : ¬ BadL wakT [12] := by
  rintro ⟨_, hb⟩
  have hh : Has wakT (told wakT [12]) wakF := by
    refine ⟨fun x hx e => ?_, fun x hx _ => ?_, fun x n hx _ _ hn => ?_⟩
    · obtain rfl : x = 12 := by simpa using hx.1
      exact absurd e (by decide)
    · obtain rfl : x = 12 := by simpa using hx.1
      decide
    · obtain rfl : x = 12 := by simpa using hx.1
      have : wakT[(12 / 2 : Int).toNat]? = some ⟨6, 2, 2, 3, 0, 0, 0, 0⟩ := rfl
      rw [this] at hn
      injection hn with hn
      subst hn
      decide
  have hc : Clo wakT wakF := by
    refine ⟨fun i n hn ho => ?_, fun i k n m hn hm ho ho' hf hl _ => ?_⟩
    · obtain ⟨h1, rfl⟩ := wak_cases hn
      have hc : i = 0 ∨ i = 1 ∨ i = 2 ∨ i = 3 ∨ i = 4 ∨ i = 5 ∨ i = 6 ∨ i = 7 := by omega
      rcases hc with rfl | rfl | rfl | rfl | rfl | rfl | rfl | rfl <;> exact absurd ho (by decide)
    · obtain ⟨h1, rfl⟩ := wak_cases hn
      obtain ⟨h2, rfl⟩ := wak_cases hm
      have key : ∀ i, i < 8 → ∀ k, k < 8 → (wakT.getD i default).op = 13 → (wakT.getD k default).op = 13 → (wakT.getD i default).fn = (wakT.getD k default).fn → wakF i = wakF k := by decide
      exact key i h1 k h2 ho ho' hf
  rcases hb with g | ⟨x, n, hx, e, _⟩
  · have := g.into hh hc
    revert this
    decide
  · obtain rfl : x = 12 := by simpa using hx.1
    exact absurd e (by decide)
theorem wak_lem : LemL wakT [13, 14] := by
  refine ⟨by decide, ?_⟩
  have : [(13 : Int), 14].map negG = [12, 15] := by
    simp only [List.map_cons, List.map_nil, negG_pos (show (0 : Int) ≤ 13 by decide) (by decide), negG_pos (show (0 : Int) ≤ 14 by decide) (by decide)]
    decide
  rw [this]
  exact wak_bad
theorem wak_nolem : ¬ LemL wakT [13] := by
  rintro ⟨_, h⟩
  have : [(13 : Int)].map negG = [12] := by
    simp only [List.map_cons, List.map_nil, negG_pos (show (0 : Int) ≤ 13 by decide) (by decide)]
    decide
  rw [this] at h
  exact wak_good h
end Go.Proofs.Ytbgbhfmchpdkcaa

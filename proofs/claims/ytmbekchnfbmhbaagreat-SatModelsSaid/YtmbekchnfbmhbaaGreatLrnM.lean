/- Learn and Chain. -/
import Derived.Test.YtmbekchnfbmhbaaGreatLrnK
import Derived.Test.YtmbekchnfbmhbaaGreatLrnIn
namespace Go.Proofs.YtmbekchnfbmhbaaGreat
open Go.RowKit Go.Lib

def LearnGot (w : World) (A0 : Option Addr) (c : List Int) (b er : Int) (e : Ending) (w' : World) : Prop :=
  ∃ CA cc, e = .returned (.tuple #[.slice CA c.length cc, .int .i64 b, .int .i64 er]) ∧ Row .i64 w' CA c ∧ (CA = none → cc = 0) ∧ Below w.heap.size w w' ∧ Far w.heap.size A0 CA c
theorem learn_of {w : World} {p : Option Addr} {LA A : Option Addr} {nl cl n cap : Nat} {c ch : List Int} {b er : Int} (K : Calls Tryz.prog 68 #[.pointer p, .slice LA nl cl, .slice A n cap] w (RunPost w A c b ch er)) :
    Calls Tryz.prog 57 #[.pointer p, .slice LA nl cl, .slice A n cap] w (LearnGot w A c b er) := by
  have HK := Lib.hid K
  clear K
  go_enter Tryz.func57, Tryz.ntmps57
  go_wp2_with (go_at_call 68; go_loud (refine HK.out.mono ?_; rintro e w1 ⟨bw, CA, cc, vh, rfl, hlt, c3, hrow, hn, c4, hch, hb, hfar⟩); have HFA := Lib.hid hfar; clear hfar; have HR := Lib.hid hrow; have HN := Lib.hid hn; have HB := Lib.hid hb; clear hrow hn hb hch)
  go_ret3
  exact ⟨CA, cc, rfl, HR.out, HN.out, HB.out, HFA.out⟩
def outC (o : Option (List Int × Int × List Int)) : List Int := match o with
  | none => []
  | some r => r.1
def outB (o : Option (List Int × Int × List Int)) : Int := match o with
  | none => 0
  | some r => r.2.1
def outCh (o : Option (List Int × Int × List Int)) : List Int := match o with
  | none => []
  | some r => r.2.2
def outE (o : Option (List Int × Int × List Int)) : Int := match o with
  | none => 2
  | some _ => 0
theorem LearnPost.all {w : World} {A0 : Option Addr} {o : Option (List Int × Int × List Int)} {e : Ending} {w' : World} (h : LearnPost w A0 o e w') : RunPost w A0 (outC o) (outB o) (outCh o) (outE o) e w' := by
  cases o <;> exact h

theorem run_fn {w : World} {BT bt ba cl cap : Nat} {LA A : Option Addr} {R : List (Option Addr × Nat × List Int)} {M : Tr} {c : List Int}
    (hT : TT w BT bt ba M) (hg : Grid w LA R) (hc : Row .i64 w A c) (hn : A = none → cap = 0) (hR : R.length ≤ 1000000) (he : ∀ r ∈ R, r.2.2.length ≤ 1000) (hmx : ∀ r ∈ R, ∀ x ∈ r.2.2, x ≤ 1000000) :
    Calls Tryz.prog 68 #[.pointer (some ⟨bt, 0, none⟩), .slice LA R.length cl, .slice A c.length cap] w (RunPost w A (outC (learnM M (rowsOf R) c)) (outB (learnM M (rowsOf R) c)) (outCh (learnM M (rowsOf R) c)) (outE (learnM M (rowsOf R) c))) := by
  cases hl : levelM M c with
  | none =>
    rw [show learnM M (rowsOf R) c = none by unfold learnM; rw [hl]]
    exact run_low hT hc hn 2 (by rw [hl]; rfl) (.inr rfl)
  | some lv =>
    by_cases h0 : lv = 0
    · subst h0
      rw [show learnM M (rowsOf R) c = some ([], 0, []) by unfold learnM; rw [hl]; rfl]
      exact run_low hT hc hn 0 (by rw [hl]; rfl) (.inl rfl)
    · exact (run_main hT hg hc hn hR he hmx hl h0).mono fun e w' h => h.all
end Go.Proofs.YtmbekchnfbmhbaaGreat


/- What the walks of the laws share: Read and All as values. -/
import Derived.Test.YtephhendkmhggaaWakes
import Derived.Test.YtephhendkmhggaaSameA
namespace Go.Proofs.Ytephhendkmhggaa
open Go.RowKit

/-- What is handed over: the expression (or none), where, the error. -/
def Rd.out : Rd → Sx × Nat × Int
  | .ok x q => (x, q, 0)
  | .err n c => (.mk 0 [] [], n, c)
def ReadOut (R : Sx × Nat × Int) (w w' : World) (e : Ending) : Prop := (∃ y : C3, Lies (fun b => w.heap.size ≤ b) w' y.val R.1 ∧ e = .returned (.tuple #[.agg #[.int .i8 y.k, .string y.t, .slice y.A y.n y.c], .int .i64 R.2.1, .int .i64 R.2.2])) ∧ Below w.heap.size w w'
theorem RdIs.out {rd : Rd} {w w' : World} {e : Ending} (h : RdIs (fun b => w.heap.size ≤ b) w' rd e ∧ Below w.heap.size w w') : ReadOut rd.out w w' e := by
  cases rd with
  | ok x q =>
    obtain ⟨⟨v, hl, rfl⟩, hb⟩ := h
    obtain ⟨y, rfl⟩ := hl.c3
    exact ⟨⟨y, hl, rfl⟩, hb⟩
  | err n c =>
    obtain ⟨h, hb⟩ := h
    exact ⟨⟨⟨0, ⟨#[]⟩, none, 0, 0⟩, Lies.leaf _ _ _ _, h⟩, hb⟩
/-- What Read tells of a text. -/
def readM (L : List UInt8) (a : Int) : Sx × Nat × Int := Rd.out (if a < 0 then .err 0 2 else topP L (fromI a L.length))
theorem Read_out (s : ByteArray) (a : Int) (hs : s.size ≤ 1000000) (w : World) : Calls Try.prog 9 #[.string s, .int .i64 a] w fun e w' => ReadOut (readM (byts s) a) w w' e := by
  refine (Read_ s a w hs).mono fun e w' h => ?_
  unfold readM
  rw [byts_len]
  exact RdIs.out h
theorem rRead_out (s : ByteArray) (a : Int) (hs : s.size ≤ 1000000) (w : World) : Calls Try.prog 10 #[.string s, .int .i64 a] w fun e w' => ReadOut (readM (byts s) a) w w' e := by
  refine (rRead s a w hs).mono fun e w' h => ?_
  unfold readM
  rw [byts_len]
  exact RdIs.out h
/-- What All tells of a text. -/
def allM (L : List UInt8) : List Sx × Nat × Int := allF L (L.length + 1) 0 []
theorem allF_len (L : List UInt8) : ∀ (f p : Nat) (acc : List Sx), p ≤ L.length → acc.length ≤ p → (allF L f p acc).1.length ≤ L.length
  | 0, p, acc, hp, ha => by unfold allF; simp only; omega
  | f + 1, p, acc, hp, ha => by
    unfold allF
    split
    · simp only; omega
    · split
      · rename_i x n ht
        have := topP_ok hp ht
        exact allF_len L f n (acc ++ [x]) this.2.1 (by rw [List.length_append, List.length_singleton]; omega)
      · simp only; omega
def AllOut (R : List Sx × Nat × Int) (w w' : World) (e : Ending) : Prop := (∃ A c, R.1.length ≤ c ∧ Kids (fun b => w.heap.size ≤ b) w' A R.1 ∧ e = .returned (.tuple #[.slice A R.1.length c, .int .i64 R.2.1, .int .i64 R.2.2])) ∧ Below w.heap.size w w'
theorem Acc.row {w : World} {D : Nat} {sv : Value} {cs : List C3} {xs : List Sx} (h : Acc w D sv cs xs) (hn : xs.length < 9223372036854775807) : ∃ A c, sv = .slice A xs.length c ∧ xs.length ≤ c ∧ Kids (fun b => D ≤ b) w A xs := by
  obtain ⟨t, A, c, hv, _, hlc, _, _, hk⟩ := (h.lies hn).open_
  injection hv with e
  injection e with e
  injection e with _ e
  injection e with _ e
  injection e with e2 e
  exact ⟨A, c, e2, hlc, hk⟩
theorem All_out (s : ByteArray) (hs : s.size ≤ 1000000) (w : World) : Calls Try.prog 12 #[.string s] w fun e w' => AllOut (allM (byts s)) w w' e := by
  refine (all_ok3 s w hs).mono ?_
  rintro e w' ⟨⟨sv, cs, ha, rfl⟩, hb⟩
  unfold allM
  rw [byts_len]
  have hn := allF_len (byts s) (s.size + 1) 0 [] (Nat.zero_le _) (Nat.zero_le _)
  rw [byts_len] at hn
  obtain ⟨A, c, rfl, hlc, hk⟩ := ha.row (by omega)
  exact ⟨⟨A, c, hlc, hk, rfl⟩, hb⟩
theorem rAll_out (s : ByteArray) (hs : s.size ≤ 1000000) (w : World) : Calls Try.prog 13 #[.string s] w fun e w' => AllOut (allM (byts s)) w w' e := by
  refine (rall_ok s w hs).mono ?_
  rintro e w' ⟨⟨sv, cs, ha, rfl⟩, hb⟩
  unfold allM
  rw [byts_len]
  have hn := allF_len (byts s) (s.size + 1) 0 [] (Nat.zero_le _) (Nat.zero_le _)
  rw [byts_len] at hn
  obtain ⟨A, c, rfl, hlc, hk⟩ := ha.row (by omega)
  exact ⟨⟨A, c, hlc, hk, rfl⟩, hb⟩
theorem Kids.mono {S S' : Nat → Prop} {w : World} {A : Option Addr} {l : List Sx} (h : Kids S w A l) (hS : ∀ b, b < w.heap.size → S b → S' b) : Kids S' w A l := fun i hi => by
  obtain ⟨b, off, k, t, B, n, c, e, hSb, hlt, h0, h1, h2, hl⟩ := h i hi
  exact ⟨b, off, k, t, B, n, c, e, hS b hlt hSb, hlt, h0, h1, h2, hl.mono hS⟩
theorem same_refl (x : Sx) : x.same x = true := (Sx.same_eq x x).2 rfl
end Go.Proofs.Ytephhendkmhggaa

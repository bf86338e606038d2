/- The tokens of a text, over lists of bytes. -/
import Derived.Test.YtpmdgjihgiieoaaLexC
import Derived.Lib.Bytealg
import Derived.Lib.IndexLaws
namespace Go.Proofs.Ytpmdgjihgiieoaa

/-- How many bytes are skipped: in a comment, or not. -/
def sk : Bool → List UInt8 → Nat
  | _, [] => 0
  | false, c :: r => if c.toNat = 59 then 1 + sk true r else if whiteN c.toNat then 1 + sk false r else 0
  | true, c :: r => if c.toNat = 10 then 1 + sk false r else 1 + sk true r

theorem sk_le : ∀ (b : Bool) (l : List UInt8), sk b l ≤ l.length
  | _, [] => by simp [sk]
  | false, c :: r => by
    have h1 := sk_le true r
    have h2 := sk_le false r
    unfold sk
    simp only [List.length_cons]
    split
    · omega
    · split <;> omega
  | true, c :: r => by
    have h1 := sk_le true r
    have h2 := sk_le false r
    unfold sk
    simp only [List.length_cons]
    split <;> omega

theorem sk_c (c : UInt8) (r : List UInt8) : sk true (c :: r) = if c.toNat = 10 then 1 + sk false r else 1 + sk true r := by rw [sk]
theorem sk_f (c : UInt8) (r : List UInt8) : sk false (c :: r) = if c.toNat = 59 then 1 + sk true r else if whiteN c.toNat then 1 + sk false r else 0 := by rw [sk]
theorem ub_eq {a b : UInt8} (h : (a == b) = true) : a = b := eq_of_beq h
theorem nat_ten {c : UInt8} : c.toNat = 10 ↔ c = 10 := ⟨fun h => UInt8.toNat_inj.1 h, fun h => by rw [h]; rfl⟩

theorem sk_none : ∀ (l : List UInt8), Lib.indexByte l 10 = -1 → sk true l = l.length
  | [], _ => rfl
  | c :: r, h => by
    unfold Lib.indexByte at h
    by_cases hc : c = 10
    · rw [hc] at h; simp at h
    · rw [if_neg (by simp [hc])] at h
      have hr : Lib.indexByte r 10 = -1 := by
        by_cases h2 : Lib.indexByte r 10 = -1
        · exact h2
        · rw [if_neg (by simp [h2])] at h
          have := Lib.indexByte_ge r 10
          omega
      rw [sk_c, if_neg (fun h => hc (nat_ten.1 h)), sk_none r hr, List.length_cons, Nat.add_comm]

theorem sk_some : ∀ (l : List UInt8) (o : Nat), Lib.indexByte l 10 = o → o < l.length ∧ sk true l = o + 1 + sk false (l.drop (o + 1))
  | [], o, h => by simp [Lib.indexByte] at h
  | c :: r, o, h => by
    unfold Lib.indexByte at h
    by_cases hc : c = 10
    · rw [if_pos (by simp [hc])] at h
      obtain rfl : o = 0 := by omega
      refine ⟨by simp, ?_⟩
      rw [sk_c, if_pos (nat_ten.2 hc)]
      simp
    · rw [if_neg (by simp [hc])] at h
      by_cases h2 : Lib.indexByte r 10 = -1
      · rw [if_pos (by simp [h2])] at h; omega
      · rw [if_neg (by simp [h2])] at h
        obtain ⟨p, rfl⟩ : ∃ p, o = p + 1 := ⟨o - 1, by have := Lib.indexByte_ge r 10; omega⟩
        obtain ⟨h3, h4⟩ := sk_some r p (by omega)
        refine ⟨by simp; omega, ?_⟩
        rw [sk_c, if_neg (fun h => hc (nat_ten.1 h)), h4, List.drop_succ_cons]
        omega

/-- Where a text is read from that is asked for at a number. -/
def fromI (at_ : Int) (n : Nat) : Nat := (max 0 (min at_ n)).toNat
theorem fromI_le (at_ : Int) (n : Nat) : fromI at_ n ≤ n := by unfold fromI; omega

/-- The signs at the front. -/
def signs (l : List UInt8) : List UInt8 := l.takeWhile fun c => signN c.toNat
theorem signs_le (l : List UInt8) : (signs l).length ≤ l.length := (List.takeWhile_sublist _).length_le

/-- A token as it is read: its kind, its text, how many bytes. -/
structure Raw where
  k : Nat
  t : List UInt8
  n : Nat
deriving DecidableEq

def raw (k : Nat) (t : List UInt8) (n : Nat) : Option Raw := if t.length ≤ 100 then some ⟨k, t, n⟩ else none

def tokBar (r : List UInt8) : Option Raw :=
  if (124 : UInt8) ∈ r then
    let t := r.takeWhile (fun c => c != 124)
    if t.all (fun c => insideN c.toNat) then raw 2 t (t.length + 2) else none
  else none
def tokKey (r : List UInt8) : Option Raw := let k := signs r; if k = [] then none else raw 4 k (k.length + 1)
def tokNum (l : List UInt8) : Option Raw :=
  let d := signs l
  if d.all (fun c => digitN c.toNat) && (d == [48] || headB d != 48) then raw 3 d d.length else none
def tokName (l : List UInt8) : Option Raw := let d := signs l; raw 2 d d.length

/-- The token at the front of a text of which nothing is skipped. -/
def tok : List UInt8 → Option Raw
  | [] => none
  | c :: r =>
    match byN c.toNat with
    | 0 => raw 0 [] 1
    | 1 => raw 1 [] 1
    | 2 => tokBar r
    | 3 => tokKey r
    | 4 => tokNum (c :: r)
    | 5 => tokName (c :: r)
    | _ => none
end Go.Proofs.Ytpmdgjihgiieoaa

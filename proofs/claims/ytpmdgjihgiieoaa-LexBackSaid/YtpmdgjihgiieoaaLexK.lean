/- Next, whole. -/
import Derived.Test.YtpmdgjihgiieoaaLexJ
namespace Go.Proofs.Ytpmdgjihgiieoaa
open Go.RowKit

theorem digit_sign : ∀ m : Fin 256, byN m.val = 4 → signN m.val = true := by decide +kernel
theorem byN_le (m : Nat) : byN m ≤ 6 := by
  unfold byN
  repeat' split
  all_goals omega
theorem next_ok (s : ByteArray) (a : Int) (w : World) (hs : s.size ≤ 1000000) :
    Calls Try.prog 10 #[.string s, .int .i64 a] w fun e w' => NextIs (byts s) (startI s a) e ∧ Below w.heap.size w w' := by
  have hle := startI_le s a
  by_cases hn0 : startI s a = s.size
  · exact (next_end s a w hs hn0).mono fun e w' h => ⟨.inl ⟨byts_end (by omega), h.1⟩, h.2⟩
  obtain ⟨n, hst⟩ : ∃ n, startI s a = n := ⟨_, rfl⟩
  rw [hst] at hn0 hle ⊢
  have hn : n < s.size := by omega
  have hd := byts_drop hn
  have hne : (byts s).drop n ≠ [] := by rw [hd]; simp
  have hx8 := (s[n]'hn).toNat_lt
  have ht : tok ((byts s).drop n) = match byN (s[n]'hn).toNat with
    | 0 => raw 0 [] 1
    | 1 => raw 1 [] 1
    | 2 => tokBar ((byts s).drop (n + 1))
    | 3 => tokKey ((byts s).drop (n + 1))
    | 4 => tokNum ((byts s).drop n)
    | 5 => tokName ((byts s).drop n)
    | _ => none := by rw [hd]; rfl
  have hb := byN_le (s[n]'hn).toNat
  obtain ⟨k, hk⟩ : ∃ k, byN (s[n]'hn).toNat = k := ⟨_, rfl⟩
  rw [hk] at ht hb
  have hsg : k = 4 → signs ((byts s).drop n) ≠ [] := fun h4 => by
    have := digit_sign ⟨(s[n]'hn).toNat, hx8⟩ (hk.trans h4)
    rw [signs_drop hn, if_pos this]
    simp
  have key : ∀ (o : Option Raw), tok ((byts s).drop n) = o → ∀ (e : Ending) (w' : World),
      (((o = none ∧ e = .returned (.tuple #[.agg #[.int .i8 0, .string ⟨#[]⟩, .int .i64 n, .int .i64 0], .bool false, .int .i64 20])) ∨
       (∃ r t, o = some r ∧ byts t = r.t ∧ e = .returned (.tuple #[.agg #[.int .i8 r.k, .string t, .int .i64 n, .int .i64 (n + r.n)], .bool true, .int .i64 0]))) ∧ Below w.heap.size w w') → NextIs (byts s) n e ∧ Below w.heap.size w w' :=
    fun o ho e w' h => ⟨h.1.elim (fun h1 => .inr (.inl ⟨hne, ho.trans h1.1, h1.2⟩)) (fun ⟨r, t, h1, h2, h3⟩ => .inr (.inr ⟨r, t, ho.trans h1, h2, h3⟩)), h.2⟩
  match k, hk, ht, hb, hsg with
  | 0, hk, ht, _, _ => exact (next_open s a w n hs hst hn hk).mono (key _ ht)
  | 1, hk, ht, _, _ => exact (next_close s a w n hs hst hn hk).mono (key _ ht)
  | 2, hk, ht, _, _ => exact (next_bar s a w n hs hst hn hk).mono (key _ ht)
  | 3, hk, ht, _, _ => exact (next_key s a w n hs hst hn hk).mono (key _ ht)
  | 4, hk, ht, _, hsg => exact (next_number s a w n hs hst hn hk (hsg rfl)).mono (key _ ht)
  | 5, hk, ht, _, _ => exact (next_name s a w n hs hst hn hk).mono (key _ ht)
  | 6, hk, ht, _, _ => exact (next_none s a w n hs hst hn hk).mono (key _ ht)
  | k + 7, _, _, hb, _ => omega
end Go.Proofs.Ytpmdgjihgiieoaa

/- The reference's Values: the walk. -/
import Derived.Test.YtfkjojogkdlcgaaUnN
namespace Go.Proofs.Ytfkjojogkdlcgaa
open Go.RowKit Go.Lib

/-- The literals that are put, of some: not what is left out, nor what has a value. -/
def putsM : List Int → List Int → List Int
  | [], acc => acc
  | x :: r, acc => if wideM x = true then putsM r acc else if valL acc x = 0 then putsM r (acc ++ [x]) else putsM r acc
theorem puts_ok : ∀ (l acc : List Int), LitsOk acc → LitsOk (putsM l acc)
  | [], _, h => h
  | x :: r, acc, h => by
    unfold putsM
    by_cases hw : wideM x = true
    · rw [if_pos hw]; exact puts_ok r acc h
    rw [if_neg hw]
    by_cases hv : valL acc x = 0
    · rw [if_pos hv]
      exact puts_ok r _ (h.push ((wide_iff x).1 (by simpa using hw)) hv)
    · rw [if_neg hv]; exact puts_ok r acc h
theorem puts_all : ∀ (l acc : List Int), LitsOk (acc ++ l) → putsM l acc = acc ++ l
  | [], acc, _ => by unfold putsM; rw [List.append_nil]
  | x :: r, acc, h => by
    unfold putsM
    have hx := h.rng x (by simp)
    have hv : valL acc x = 0 := by
      rw [valL_zero]
      have hd := (List.pairwise_append.1 h.dis).2.2
      exact ⟨fun hm => hd x hm x (by simp) rfl, fun hm => hd (negM x) hm x (by simp) negM_half⟩
    rw [if_neg (by rw [(wide_iff x).2 hx]; decide), if_pos hv, puts_all r (acc ++ [x]) (by simpa using h)]
    simp
def nodesLen (puts : List Int) : Nat := (puts.map fun x => (x / 2).toNat + 1).foldl Nat.max 0
theorem nodesLen_push (puts : List Int) {x : Int} {q : Nat} (h : x / 2 = q) : nodesLen (puts ++ [x]) = Nat.max (nodesLen puts) (q + 1) := by
  unfold nodesLen
  rw [List.map_append, List.foldl_append]
  simp [h]
theorem nodes_max : ∀ (l : List Nat) (N m : Nat), m ≤ N → (∀ x ∈ l, x ≤ N) → l.foldl Nat.max m ≤ N
  | [], _, _, h, _ => h
  | x :: r, N, m, h, hx => nodes_max r N (Nat.max m x) (by have := hx x (by simp); show max m x ≤ N; omega) fun y hy => hx y (List.mem_cons_of_mem _ hy)
theorem nodes_small {puts : List Int} (h : LitsOk puts) : nodesLen puts ≤ 524289 := nodes_max _ _ _ (by decide) fun y hy => by
  obtain ⟨x, hx, rfl⟩ := List.mem_map.1 hy
  have := h.rng x hx
  omega

set_option maxRecDepth 100000 in
set_option maxHeartbeats 4000000 in
theorem values16_ok {w : World} {A : Option Addr} {zs : List Int} (cap : Nat) (h : Row .i64 w A zs) (hm : ∀ x ∈ zs, x ≤ 9223372036854775807) :
    Calls Try.prog 16 #[.slice A zs.length cap] w fun e w' => ∃ va AA, e = .returned va ∧ WidePost w w' w.heap.size va AA (putsM zs []) (nodesLen (putsM zs [])) := by
  have hlen := h.len
  have H := Lib.hid h
  have Hm := Lib.hid hm
  clear h hm
  go_enter Try.func16, Try.ntmps16
  go_wp2
  go_loopw [4, 3] (fun vi va wr => ∃ (i : Nat) (AA puts : List Int), i ≤ zs.length ∧ vi = .int .i64 i ∧ WidePost w wr w.heap.size va AA puts (nodesLen puts) ∧ LitsOk puts ∧ putsM (zs.drop i) puts = putsM zs []) (fun vi _ _ => (zs.length - intOf vi).toNat)
  case atStart => exact ⟨0, [], [], Nat.zero_le _, rfl, ⟨World.ownsRow_nil _ _ _ _, (fun n => by simp [valL]), rfl, Below.refl _ _, KeepI.refl _⟩, LitsOk.nil, rfl⟩
  case round =>
    obtain ⟨i, AA, puts, hi, rfl, hP, hok, hinv⟩ := hrel
    have hAl : AA.length ≤ 524289 := by rw [hP.len]; exact nodes_small hok
    obtain ⟨ad, ac, rfl, hrowA⟩ := hP.av.row (by omega)
    have HP := Lib.hid hP
    have Hok := Lib.hid hok
    have HrA := Lib.hid hrowA
    by_cases hlt : i < zs.length
    · have d1 : decide ((i : Int) < zs.length) = true := by simp; omega
      obtain ⟨b, off, hA, hb, hcell⟩ := (H.out.below hP.bel).at_.resolve_left (by omega)
      subst hA
      have y0 := hcell i hlt
      have hx := Hm.out zs[i] (List.getElem_mem hlt)
      have hdr : putsM (zs[i] :: zs.drop (i + 1)) puts = putsM zs [] := by rw [← List.drop_eq_getElem_cons hlt]; exact hinv
      have Hdr := Lib.hid hdr
      have t1 : (0 : Int) ≤ (i : Int) := by omega
      have t2 : (i : Int) < (zs.length : Int) := by omega
      clear hcell hdr hinv hP hok hrowA
      generalize zs[i] = x at *
      have Kf := fits_ok x wr
      by_cases hw : wideM x = true
      · rw [hw] at Kf
        have Hg := Lib.hid (show putsM (x :: zs.drop (i + 1)) puts = putsM (zs.drop (i + 1)) puts by conv => lhs; unfold putsM; rw [if_pos hw])
        clear hw hx
        go_wp2_with (go_at_call 34; (with_reducible refine Kf.mono ?_); rintro e w2 ⟨rfl, rfl⟩)
        go_roundw
        case rel => exact ⟨i + 1, AA, puts, by omega, by go_num, HP.out, Hok.out, by rw [← Hg.out, Hdr.out]⟩
        case measure => simp only [intOf]; omega
      have hwf : wideM x = false := by simpa using hw
      have hxr := (wide_iff x).1 hwf
      rw [hwf] at Kf
      have Kv := val15_ok ac HrA.out x hx
      rw [rep_val HP.out.rep Hok.out hxr.1] at Kv
      have Hw := Lib.hid hw
      clear hw hwf hx
      by_cases hv : valL puts x = 0
      · rw [hv] at Kv
        obtain ⟨q, hq⟩ : ∃ q : Nat, x / 2 = q := ⟨(x / 2).toNat, by omega⟩
        have Kp := put16_ok HP.out.av HP.out.rep hq hxr.1 hxr.2 hv (by omega) HP.out.bel.size
        have Hg := Lib.hid (show putsM (x :: zs.drop (i + 1)) puts = putsM (zs.drop (i + 1)) (puts ++ [x]) by conv => lhs; unfold putsM; rw [if_neg Hw.out, if_pos hv])
        have Hok2 := Lib.hid (Hok.out.push hxr hv)
        have Hnl := Lib.hid (nodesLen_push puts hq)
        clear hv hq hxr
        go_wp2_with (first
          | (go_at_call 34; (with_reducible refine Kf.mono ?_); rintro e w2 ⟨rfl, rfl⟩)
          | (go_at_call 14; (with_reducible refine Kv.mono ?_); rintro e w2 ⟨rfl, rfl⟩)
          | (go_at_call 35; (with_reducible refine Kp.mono ?_); rintro e w2 ⟨va2, A2, rfl, hP2⟩; have HP2 := Lib.hid hP2; clear hP2))
        go_roundw
        case rel => exact ⟨i + 1, A2, puts ++ [x], by omega, by go_num, ⟨HP2.out.av, HP2.out.rep, by rw [Hnl.out, HP2.out.len, HP.out.len], HP.out.bel.trans HP2.out.bel, HP.out.keep.trans HP2.out.keep⟩, Hok2.out, by rw [← Hg.out, Hdr.out]⟩
        case measure => simp only [intOf]; omega
      · have Hg := Lib.hid (show putsM (x :: zs.drop (i + 1)) puts = putsM (zs.drop (i + 1)) puts by conv => lhs; unfold putsM; rw [if_neg Hw.out, if_neg hv])
        generalize valL puts x = v at *
        have b1 : (v == 0) = false := beq_eq_false_iff_ne.2 hv
        clear hv hxr
        go_wp2_with (first
          | (go_at_call 34; (with_reducible refine Kf.mono ?_); rintro e w2 ⟨rfl, rfl⟩)
          | (go_at_call 14; (with_reducible refine Kv.mono ?_); rintro e w2 ⟨rfl, rfl⟩))
        go_roundw
        case rel => exact ⟨i + 1, AA, puts, by omega, by go_num, HP.out, Hok.out, by rw [← Hg.out, Hdr.out]⟩
        case measure => simp only [intOf]; omega
    · obtain rfl : i = zs.length := by omega
      have d1 : decide ((zs.length : Int) < zs.length) = false := by simp
      rw [List.drop_length] at hinv
      have HI := Lib.hid (show puts = putsM zs [] from hinv)
      clear hinv hP hok hrowA
      go_wp2
      go_ret
      exact ⟨_, AA, rfl, by rw [← HI.out]; exact HP.out⟩
end Go.Proofs.Ytfkjojogkdlcgaa

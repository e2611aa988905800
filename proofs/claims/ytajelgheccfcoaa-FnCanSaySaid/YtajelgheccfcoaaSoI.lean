/- Whether a saying is so, at the implementation. -/
import Derived.Test.YtajelgheccfcoaaTextI
namespace Go.Proofs.Ytajelgheccfcoaa
open Go.RowKit

theorem saidOf_range {p : Int} {l : List UInt8} {a : Say} (h : saidOf p l = some a) : 1 ≤ p ∧ p ≤ 5 ∧ l.length ≤ 40 := by
  unfold saidOf at h
  split at h
  · assumption
  · cases h

set_option maxRecDepth 100000 in
theorem isWord_any (p : Nat) (hp : 1 ≤ p ∧ p ≤ 5) (k : Int) (W : World) :
    Calls Try.prog 54 #[.int .i64 (p : Int), .int .i64 k] W fun e w' => e = .returned (.bool (inB 0 ((2 ^ p - 1 : Nat) : Int) k)) ∧ w' = W := by
  obtain rfl | rfl | rfl | rfl | rfl : p = 1 ∨ p = 2 ∨ p = 3 ∨ p = 4 ∨ p = 5 := by omega
  all_goals
    go_enter Try.func54, Try.ntmps54
    go_wp2_with fail
    with_reducible refine (in_any _ _ _ _).mono ?_
    rintro e w' ⟨rfl, rfl⟩
    go_wp2
    go_ret
    exact ⟨rfl, rfl⟩

theorem Turned.drewN {lo hi : Nat} {w w' : World} (h : Turned lo hi w w') (n : Nat) : Turned lo hi w (w'.drewN n) :=
  ⟨h.os, h.tape, h.output, h.size, h.block⟩

/-- Whether a saying is so for the set k. -/
def soB (p : Int) (l : List UInt8) (k : Int) : Bool := match saidOf p l with
  | none => false
  | some a => inB 0 ((2 ^ p.toNat - 1 : Nat) : Int) k && a.val k.toNat

set_option maxRecDepth 100000 in
theorem implSoFor_any (p : Int) (l : List UInt8) (k : Int) (W : World) (hl : l.length < 4611686018427387904) :
    Calls Try.prog 33 #[.int .i64 p, .string (tx l), .int .i64 k] W fun e w' => e = .returned (.bool (soB p l k)) ∧ Turned 0 0 W w' := by
  have T := Lib.hid (claimOf_any p l W hl)
  have q1 := fn_nil
  have q2 := fn_func
  obtain ⟨o, ho⟩ : ∃ o, o = saidOf p l := ⟨_, rfl⟩
  rw [← ho] at T
  cases o with
  | none =>
    have HB : Hid (soB p l k = false) := by unfold Hid soB; rw [← ho]
    clear ho hl
    go_enter Try.func33, Try.ntmps33
    go_wp2_with fail
    with_reducible refine T.out.mono ?_
    rintro e W1 ⟨v, rfl, hv, ht⟩
    have HT := Lib.hid ht
    clear ht
    obtain rfl : v = .nilFunc := hv
    go_wp2
    go_ret
    exact ⟨ret_bool HB.out.symm, HT.out⟩
  | some a =>
    have HB : Hid (soB p l k = (inB 0 ((2 ^ p.toNat - 1 : Nat) : Int) k && a.val k.toNat)) := by unfold Hid soB; rw [← ho]
    obtain ⟨h1, h5, -⟩ := saidOf_range ho.symm
    obtain ⟨q, rfl⟩ := Int.eq_ofNat_of_zero_le (show 0 ≤ p by omega)
    have H := Lib.hid (fun k W => isWord_any q (by omega) k W)
    have HQ : Hid (2 ^ q ≤ 32) := by
      unfold Hid
      calc 2 ^ q ≤ 2 ^ 5 := Nat.pow_le_pow_right (by omega) (by omega)
        _ = 32 := by decide
    clear ho hl h1 h5
    go_enter Try.func33, Try.ntmps33
    go_wp2_with fail
    with_reducible refine T.out.mono ?_
    rintro e W1 ⟨v, rfl, hv, ht⟩
    have HT := Lib.hid ht
    clear ht
    obtain ⟨K, caps, rfl, hK, hev⟩ := claim_eval hv
    clear hv
    have hE := fun W' => hK (#[.int .i64 k] ++ caps) W'
    have HEV := Lib.hid hev
    clear hK hev
    go_wp2_with fail
    with_reducible refine (H.out _ _).mono ?_
    rintro e w' ⟨rfl, rfl⟩
    rcases Bool.eq_false_or_eq_true (inB 0 ((2 ^ q - 1 : Nat) : Int) k) with hb | hb
    · rw [hb]
      have hk := inB_in hb
      have hQ := HQ.out
      obtain ⟨m, rfl⟩ := Int.eq_ofNat_of_zero_le hk.1
      have hm : m < 32 := by have := hk.2; omega
      have HA : Hid (Calls Try.prog K (#[Value.int IntKind.i64 (m : Int)] ++ caps) w' (Ans a m w')) := HEV.out m 0 hm
      have HB2 : Hid (soB (q : Int) l (m : Int) = a.val m) := by unfold Hid; rw [HB.out, show ((q : Int)).toNat = q from rfl, hb]; rfl
      clear hb hk hQ hm
      go_wp2_with fail
      with_reducible refine HA.out.mono ?_
      rintro e w'' ⟨rfl, n, rfl⟩
      rw [← HB2.out]
      go_wp2
      go_ret
      exact ⟨rfl, HT.out.drewN n⟩
    · rw [hb]
      have HB2 : Hid (soB (q : Int) l k = false) := by unfold Hid; rw [HB.out, show ((q : Int)).toNat = q from rfl, hb]; rfl
      clear hb
      go_wp2
      go_ret
      exact ⟨ret_bool HB2.out.symm, HT.out⟩
end Go.Proofs.Ytajelgheccfcoaa

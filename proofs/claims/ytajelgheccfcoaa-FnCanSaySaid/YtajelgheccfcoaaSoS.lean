/- Whether a saying is so, at the specification. -/
import Derived.Test.YtajelgheccfcoaaReadB
namespace Go.Proofs.Ytajelgheccfcoaa
open Go.RowKit

set_option maxHeartbeats 3200000 in
set_option maxRecDepth 100000 in
theorem specSoFor_any (p : Int) (l : List UInt8) (k : Int) (W : World) (hl : l.length < 4611686018427387904) :
    Calls Try.prog 42 #[.int .i64 p, .string (tx l), .int .i64 k] W fun e w' => e = .returned (.bool (soB p l k)) ∧ ∃ m, w' = W.drewN m := by
  have T := Lib.hid (specTextOk_any p l W hl)
  obtain ⟨o, ho⟩ : ∃ o, o = saidOf p l := ⟨_, rfl⟩
  cases o with
  | none =>
    have HB : Hid (soB p l k = false) := by unfold Hid soB; rw [← ho]
    have HX : Hid (textB p l = false) := by unfold Hid textB; rw [← ho]; rfl
    clear ho hl
    generalize tx l = S at *
    go_enter Try.func42, Try.ntmps42
    go_wp2_with fail
    with_reducible refine T.out.mono ?_
    rintro e w' ⟨rfl, m, rfl⟩
    rw [HX.out]
    go_wp2
    go_ret
    exact ⟨ret_bool HB.out.symm, _, rfl⟩
  | some a =>
    obtain ⟨h1, h5, h40⟩ := saidOf_range ho.symm
    have HX : Hid (textB p l = true) := by unfold Hid textB; rw [← ho]; rfl
    obtain ⟨q, rfl⟩ := Int.eq_ofNat_of_zero_le (show 0 ≤ p by omega)
    have HB : Hid (soB (q : Int) l k = (inB 0 ((2 ^ q - 1 : Nat) : Int) k && a.val k.toNat)) := by unfold Hid soB; rw [← ho]; rfl
    have hrd : (rd q l.length l).1 = some a := by
      have h := ho.symm
      rw [saidOf_of (by omega) h40] at h
      split at h
      · exact h
      · cases h
    have HR : Hid (∀ m : Nat, m < 2 ^ q → ∀ W, Calls Try.prog 58 #[.int .i64 (q : Int), .string (tx l), .int .i64 0, .int .i64 (m : Int)] W fun e w' => ∃ z : Int, e = .returned (.tuple #[.bool (a.val m), .int .i64 z]) ∧ ∃ n, w' = W.drewN n) := by
      intro m hm W
      refine (read_any q m l (by omega) hm hl l.length 0 W (by omega)).mono ?_
      rintro e w' ⟨b, z, rfl, hb, n, rfl⟩
      rw [List.drop_zero, hrd] at hb
      obtain ⟨rfl, -⟩ := hb
      exact ⟨z, rfl, n, rfl⟩
    have hq : q = 1 ∨ q = 2 ∨ q = 3 ∨ q = 4 ∨ q = 5 := by omega
    clear ho hl hrd h1 h5 h40
    generalize tx l = S at *
    obtain rfl | rfl | rfl | rfl | rfl := hq
    all_goals
      simp only [show ((1 : Nat) : Int) = 1 from rfl, show ((2 : Nat) : Int) = 2 from rfl, show ((3 : Nat) : Int) = 3 from rfl, show ((4 : Nat) : Int) = 4 from rfl, show ((5 : Nat) : Int) = 5 from rfl, show ((2 ^ 3 - 1 : Nat) : Int) = 7 from rfl, show ((2 ^ 4 - 1 : Nat) : Int) = 15 from rfl, show ((2 ^ 5 - 1 : Nat) : Int) = 31 from rfl] at T HX HB HR ⊢
      go_enter Try.func42, Try.ntmps42
      go_wp2_with fail
      with_reducible refine T.out.mono ?_
      rintro e w' ⟨rfl, m, rfl⟩
      rw [HX.out]
      go_wp2_with fail
      with_reducible refine (l1In_any _ _ _ _).mono ?_
      rintro e w' ⟨rfl, rfl⟩
      generalize hb : inB _ _ _ = bb
      cases bb with
      | false =>
        have HB2 : Hid (soB _ l k = false) := HB.out.trans (by rw [show inB 0 _ k = false from hb]; rfl)
        clear hb
        go_wp2
        go_ret
        exact ⟨ret_bool HB2.out.symm, _, rfl⟩
      | true =>
        have hk := inB_in hb
        obtain ⟨j, rfl⟩ := Int.eq_ofNat_of_zero_le hk.1
        have HA := Lib.hid (HR.out j (by omega))
        have HB2 : Hid (soB _ l (j : Int) = a.val j) := HB.out.trans (by rw [show inB 0 _ (j : Int) = true from hb]; rfl)
        clear hb hk
        go_wp2_with fail
        with_reducible refine (HA.out _).mono ?_
        rintro e w'' ⟨z, rfl, n, rfl⟩
        rw [← HB2.out]
        go_wp2
        go_ret
        exact ⟨rfl, _, rfl⟩
end Go.Proofs.Ytajelgheccfcoaa

/- Whether sayings are right, at the specification. -/
import Derived.Test.YtajelgheccfcoaaSayOk
import Derived.Test.YtajelgheccfcoaaSoS
namespace Go.Proofs.Ytajelgheccfcoaa
open Go.RowKit

theorem sayB_out {p : Int} {ps : List Sy} (h : ¬ (1 ≤ p ∧ p ≤ 5)) : sayB p ps = false := by unfold sayB; rw [inB_false h]; rfl
theorem textB_out {p : Int} {l : List UInt8} (h : ¬ (1 ≤ p ∧ p ≤ 5)) : textB p l = false := by
  unfold textB saidOf; rw [if_neg (by omega)]; rfl

set_option maxHeartbeats 1600000 in
set_option maxRecDepth 100000 in
theorem specSayingsOk_any (p : Int) (v : Value) (ps : List Sy) (w : World) (hl : Brief ps) (h : RdS w v ps) :
    Calls Try.prog 29 #[.int .i64 p, v] w fun e w' => e = .returned (.bool (sayB p ps)) ∧ ∃ n, w' = w.drewN n := by
  have HL := Lib.hid hl
  have HT := Lib.hid (fun l W (h : l.length < 4611686018427387904) => specTextOk_any p l W h)
  have HO : Hid (sayB p ps = (inB 1 5 p && (decide (ps.length ≤ 6) && ps.all (okB p)))) := rfl
  obtain ⟨a1, cp, rfl, l1, m1, r1⟩ := h
  clear hl
  by_cases hp : 1 ≤ p ∧ p ≤ 5
  · have HI : Hid (inB 1 5 p = true) := inB_true hp.1 hp.2
    go_enter Try.func29, Try.ntmps29
    go_wp2
    go_loopw [5] (fun i wr => ∃ k : Nat, k ≤ ps.length ∧ i = .int .i64 k ∧ Hid ((ps.take k).all (okB p) = true) ∧ ∃ n, wr = w.drewN n) (fun i _ => ps.length - (intOf i).toNat)
    case atStart => exact ⟨0, Nat.zero_le _, rfl, rfl, 0, rfl⟩
    case round =>
      obtain ⟨k, hk, rfl, hno, n, rfl⟩ := hrel
      by_cases hlt : k < ps.length
      · obtain ⟨g1, o1, x, l, rfl, hg1, ⟨q0, q1⟩, Z1⟩ := rdS_at r1 k hlt
        clear r1
        have HA := Lib.hid (fun W => HT.out l W (HL.out _ (memS hlt Z1.out)))
        have HOK : Hid (okB p (ps.getD k noSy) = (inB 0 (p - 1) x && textB p l)) := by unfold Hid; rw [← Z1.out]; rfl
        generalize tx l = S at *
        go_wp2_with fail
        with_reducible refine (l1In_any _ _ _ _).mono ?_
        rintro e w' ⟨rfl, rfl⟩
        generalize inB 0 (p - 1) x = b0 at *
        cases b0 with
        | false =>
          have HF : Hid (ps.all (okB p) = false) := by
            unfold Hid
            rw [List.all_eq_false]
            exact ⟨_, memS hlt rfl, by rw [HOK.out]; simp⟩
          go_wp2
          go_ret
          exact ⟨ret_bool (by rw [HO.out, HF.out, Bool.and_false, Bool.and_false]), _, rfl⟩
        | true =>
          go_wp2_with fail
          with_reducible refine (HA.out _).mono ?_
          rintro e w' ⟨rfl, m, rfl⟩
          generalize textB p l = b1 at *
          cases b1 with
          | false =>
            have HF : Hid (ps.all (okB p) = false) := by
              unfold Hid
              rw [List.all_eq_false]
              exact ⟨_, memS hlt rfl, by rw [HOK.out]; simp⟩
            go_wp2
            go_ret
            exact ⟨ret_bool (by rw [HO.out, HF.out, Bool.and_false, Bool.and_false]), _, rfl⟩
          | true =>
            have HS : Hid ((ps.take (k + 1)).all (okB p) = true) := by
              unfold Hid
              rw [takeS_snoc ps k hlt, List.all_append, hno.out]
              rw [List.all_cons, HOK.out]; rfl
            go_wp2
            go_round
            case rel => exact ⟨k + 1, by omega, by go_num, HS, _, rfl⟩
            case measure => simp [intOf]; omega
      · have hk' : k = ps.length := by omega
        subst hk'
        have HA : Hid (ps.all (okB p) = true) := by unfold Hid; rw [← hno.out, List.take_length]
        go_wp2_with fail
        with_reducible refine (l1In_any _ _ _ _).mono ?_
        rintro e w' ⟨rfl, rfl⟩
        rw [HI.out]
        by_cases h6 : ps.length ≤ 6
        · have h6' : (ps.length : Int) ≤ 6 := by omega
          have HO2 : Hid (sayB p ps = true) := by unfold Hid; rw [HO.out, HI.out, HA.out, decide_eq_true h6]; rfl
          go_wp2
          go_ret
          exact ⟨ret_bool HO2.out.symm, _, rfl⟩
        · have h6' : ¬ (ps.length : Int) ≤ 6 := by omega
          have HO2 : Hid (sayB p ps = false) := by unfold Hid; rw [HO.out, HI.out, decide_eq_false h6]; rfl
          go_wp2
          go_ret
          exact ⟨ret_bool (by rw [HO2.out]; exact decide_eq_false (by omega)), _, rfl⟩
  · have HI : Hid (inB 1 5 p = false) := inB_false hp
    have HO2 : Hid (sayB p ps = false) := sayB_out hp
    have HX : Hid (∀ l, textB p l = false) := fun l => textB_out hp
    clear hp
    go_enter Try.func29, Try.ntmps29
    go_wp2
    go_loopw [5] (fun i wr => i = .int .i64 0 ∧ wr = w) (fun i _ => ps.length - (intOf i).toNat)
    case atStart => exact ⟨rfl, rfl⟩
    case round =>
      obtain ⟨rfl, rfl⟩ := hrel
      by_cases hlt : 0 < ps.length
      · obtain ⟨g1, o1, x, l, rfl, hg1, ⟨q0, q1⟩, Z1⟩ := rdS_at r1 0 hlt
        clear r1
        rw [Nat.zero_mul, Nat.add_zero] at q0 q1
        have HA := Lib.hid (fun W => HT.out l W (HL.out _ (memS hlt Z1.out)))
        have HX2 := Lib.hid (HX.out l)
        generalize tx l = S at *
        go_wp2_with fail
        with_reducible refine (l1In_any _ _ _ _).mono ?_
        rintro e w' ⟨rfl, rfl⟩
        generalize inB 0 _ x = b0 at *
        cases b0 with
        | false =>
          go_wp2
          go_ret
          exact ⟨ret_bool HO2.out.symm, 0, rfl⟩
        | true =>
          go_wp2_with fail
          with_reducible refine (HA.out _).mono ?_
          rintro e w' ⟨rfl, m, rfl⟩
          rw [HX2.out]
          go_wp2
          go_ret
          exact ⟨ret_bool HO2.out.symm, _, rfl⟩
      · go_wp2_with fail
        with_reducible refine (l1In_any _ _ _ _).mono ?_
        rintro e w' ⟨rfl, rfl⟩
        rw [HI.out]
        go_wp2
        go_ret
        exact ⟨ret_bool HO2.out.symm, 0, rfl⟩
end Go.Proofs.Ytajelgheccfcoaa

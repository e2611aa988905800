/- The walk of the law on RoundsOf. -/
import Derived.Test.YtnpfjpihcdlmhaaTold
import Derived.Test.YtnpfjpihcdlmhaaRounds
import Derived.Test.YtnpfjpihcdlmhaaDraws
import Derived.Test.YtnpfjpihcdlmhaaAlive
namespace Go.Proofs.Ytnpfjpihcdlmhaa
open Go.RowKit

def cntN (q : Int) (zs : List Int) : Nat := (zs.filter fun z => decide (z = q)).length
theorem cntN_succ (q : Int) (zs : List Int) (k : Nat) (h : k < zs.length) : cntN q (zs.take (k + 1)) = if zs.getD k 0 = q then cntN q (zs.take k) + 1 else cntN q (zs.take k) := by
  unfold cntN
  rw [take_snoc zs k h, List.filter_append, List.length_append]
  split <;> simp_all
theorem cntN_le (q : Int) (zs : List Int) : cntN q zs ≤ zs.length := List.length_filter_le _ _

def finOk : Bool := (List.range 5).all fun p => (List.range 13).all fun r => (List.range (p + 1)).all fun f =>
  (fun zs : List Int => visB ((p + 1 : Nat) : Int) zs && ((List.range (p + 1)).all (fun q => decide (cntN (q : Int) zs = r)) && (decide (r < 2 * p) || decide ((zs.foldl stepV (0, 0, List.replicate (p + 1) 0)).2.1 = (p : Int))))) (rndL ((p + 1 : Nat) : Int) (f : Int) ((p + 1) * r))
set_option maxRecDepth 100000 in
theorem finOk_true : finOk = true := by decide +kernel

theorem rnd_facts {p r f : Int} (h : rndB p r f = true) : visB p (rnd p r f) = true ∧ (∀ q, 0 ≤ q → q < p → (cntN q (rnd p r f) : Int) = r) ∧ (2 * (p - 1) ≤ r → 0 < r → 0 ≤ toldI p (rnd p r f)) ∧ (0 < (rnd p r f).length → 0 < r) := by
  obtain ⟨h1, h2, h3, h4, h5, h6⟩ := rndB_yes h
  have hR : rnd p r f = rndL p f (p * r).toNat := by unfold rnd; rw [if_pos h]
  rw [hR]
  obtain ⟨P, rfl⟩ : ∃ P : Nat, p = ((P + 1 : Nat) : Int) := ⟨(p - 1).toNat, by omega⟩
  obtain ⟨R, rfl⟩ := Int.eq_ofNat_of_zero_le h3
  obtain ⟨F, rfl⟩ := Int.eq_ofNat_of_zero_le h5
  have e : (((P + 1 : Nat) : Int) * (R : Int)).toNat = (P + 1) * R := by rw [← Int.natCast_mul]; rfl
  rw [e]
  have hf := finOk_true
  unfold finOk at hf
  have q1 := List.all_eq_true.1 hf P (List.mem_range.2 (by omega))
  have q2 := List.all_eq_true.1 q1 R (List.mem_range.2 (by omega))
  have q3 := List.all_eq_true.1 q2 F (List.mem_range.2 (by omega))
  simp only [Bool.and_eq_true, Bool.or_eq_true, decide_eq_true_eq, List.all_eq_true] at q3
  obtain ⟨a1, a2, a3⟩ := q3
  refine ⟨a1, fun q hq0 hq1 => ?_, fun ht hr0 => ?_, fun hl => ?_⟩
  · obtain ⟨Q, rfl⟩ := Int.eq_ofNat_of_zero_le hq0
    rw [a2 Q (List.mem_range.2 (by omega))]
  · unfold toldI
    rw [if_pos a1]
    split
    · omega
    · have hn : (rndL ((P + 1 : Nat) : Int) (F : Int) ((P + 1) * R)).length = (P + 1) * R := length_rndL _ _ _
      have hpos : 0 < (P + 1) * R := Nat.mul_pos (by omega) (by omega)
      have ht : toldAt ((P + 1 : Nat) : Int) (rndL ((P + 1 : Nat) : Int) (F : Int) ((P + 1) * R)) ((P + 1) * R - 1 + 1) = true := by
        rw [Nat.sub_add_cancel hpos]
        unfold toldAt stV newDone
        rw [if_pos ⟨h1, h2⟩, List.take_of_length_le (Nat.le_of_eq hn)]
        rcases a3 with a | a
        · omega
        · simp only [decide_eq_true_eq]
          show (List.foldl stepV (0, 0, List.replicate (P + 1) 0) _).2.1 = _
          rw [a]; omega
      unfold toldFrom
      rw [hn]
      split
      · omega
      · rename_i hno
        rw [List.find?_eq_none] at hno
        exact absurd ht (hno ((P + 1) * R - 1) (List.mem_range.2 (by omega)))
  · rw [length_rndL] at hl
    have := Nat.pos_of_mul_pos_left hl
    omega

set_option maxRecDepth 100000 in
theorem walk_FnRoundsOf (a0 : Option Addr) (len0 cap0 : Nat) (z0 : List Int) (w : World) (w0 : IsRowB .u8 w a0 len0 cap0 z0) :
    Calls Try.prog 14 #[.slice a0 len0 cap0] w fun e w' => e = .returned (.bool true) ∧ Below w.heap.size w w' := by
  by_cases hlen : 1048576 < len0
  · go_enter Try.func14, Try.ntmps14
    go_wp2
    go_ret
    exact ⟨rfl, Below.refl _ _⟩
  · go_enter Try.func14, Try.ntmps14
    go_wp2_with fail
    refine (DrawRoundsOf_any _ _ _ _ _ w0).mono ?_
    rintro e w1 ⟨⟨P, R, F, rfl, hP0, hP1, hR0, hR1, hF0, hF1⟩, b1⟩
    have s1 := b1.size
    clear w0
    go_wp2_with fail
    refine (implRoundsOf_any _ _ _ _).mono ?_
    rintro e w2 ⟨v1, rfl, o1, b2⟩
    have s2 := b2.size
    have bb := b1.trans (b2.mono s1)
    clear b1 b2
    go_wp2_with fail
    refine (specRoundsOf_any _ _ _ _ (by omega)).mono ?_
    rintro e w3 ⟨v2, rfl, o2, b3⟩
    have s3 := b3.size
    have o1b := o1.below b3 (Nat.le_refl _)
    have bb3 := bb.trans (b3.mono (by omega))
    clear b3 o1 bb
    have hR := o1b.rd
    have HR := Lib.hid hR
    have HL := Lib.hid (rnd_len P R F)
    have HFA := Lib.hid (@rnd_facts P R F)
    have HN : Hid (rndB P R F = false → rnd P R F = []) := by intro h; unfold rnd; rw [if_neg (by simp [h])]
    generalize rnd P R F = zs at *
    go_wp2_with fail
    refine (sameInts_true _ _ zs _ hR o2.rd).mono ?_
    rintro e w4 ⟨rfl, n4, rfl⟩
    obtain ⟨a1, c1, rfl, l1, m1, r1⟩ := hR
    have HB := Lib.hid bb3
    clear o1b o2 bb3
    by_cases hz : zs.length = 0
    · have hz' : ((zs.length : Int) == 0) = true := by simp [hz]
      clear hz
      go_wp2_with fail
      refine (alive_true _).mono ?_
      rintro e w5 ⟨rfl, rfl⟩
      go_wp2
      go_ret
      exact ⟨rfl, below_drewN HB.out n4⟩
    · have hz' : ((zs.length : Int) == 0) = false := by simpa using hz
      have hrb : rndB P R F = true := by
        rcases Bool.eq_false_or_eq_true (rndB P R F) with h | h
        · exact h
        · exact absurd (by rw [HN.out h]; rfl) hz
      have h6 := rndB_yes hrb
      obtain ⟨f1, f2, f3, f4⟩ := HFA.out hrb
      have F2 := Lib.hid f2; have F3 := Lib.hid f3
      have hR0' : 0 < R := f4 (by omega)
      have hl60 := HL.out
      clear hrb f1 f2 f3 f4 hz HN HFA
      go_wp2
      go_loopw [7] (fun q wr => ∃ Q : Nat, (Q : Int) ≤ P ∧ q = .int .i64 Q ∧ ∃ m, wr = w3.drewN m) (fun q _ => (P - intOf q).toNat)
      case atStart => exact ⟨0, by simp; omega, rfl, n4, rfl⟩
      case round =>
        obtain ⟨Q, hQ, rfl, m, rfl⟩ := hrel
        by_cases hlt : (Q : Int) < P
        · go_wp2
          go_loopw [8, 9] (fun n k wr => ∃ N K : Nat, K ≤ zs.length ∧ n = .int .i64 N ∧ k = .int .i64 K ∧ Hid (N = cntN (Q : Int) (zs.take K)) ∧ N ≤ K ∧ ∃ m, wr = w3.drewN m) (fun _ k _ => zs.length - (intOf k).toNat)
          case atStart => exact ⟨0, 0, Nat.zero_le _, rfl, rfl, rfl, Nat.le_refl _, _, rfl⟩
          case round =>
            obtain ⟨N, K, hK, rfl, rfl, HC, hNK, m5, rfl⟩ := hrel
            by_cases hkl : K < zs.length
            · obtain ⟨g1, o1, z, rfl, hg1, x1, HZ⟩ := rd_at r1 K hkl
              clear r1
              have hs := cntN_succ (Q : Int) zs K hkl
              rw [← HZ.out] at hs
              by_cases hzq : z = (Q : Int)
              · have hs2 : Hid (N + 1 = cntN (Q : Int) (zs.take (K + 1))) := by unfold Hid; rw [hs, if_pos hzq, ← HC.out]
                subst hzq
                clear hs
                go_wp2
                go_round
                case rel => exact ⟨N + 1, K + 1, by omega, by go_num, by go_num, hs2, by omega, _, rfl⟩
                case measure => simp [intOf]; omega
              · have hs2 : Hid (N = cntN (Q : Int) (zs.take (K + 1))) := by unfold Hid; rw [hs, if_neg hzq, ← HC.out]
                have hzb : (z == (Q : Int)) = false := by simpa using hzq
                clear hs hzq
                go_wp2
                go_round
                case rel => exact ⟨N, K + 1, by omega, by go_num, by go_num, hs2, by omega, _, rfl⟩
                case measure => simp [intOf]; omega
            · have hk' : K = zs.length := by omega
              subst hk'
              have hNR : (N : Int) = R := by
                have := F2.out Q (by omega) hlt
                have h2 := HC.out
                rw [List.take_length] at h2
                rw [h2]; exact this
              subst hNR
              clear F2
              go_wp2
              go_round
              case rel => exact ⟨Q + 1, by omega, by go_num, _, rfl⟩
              case measure => simp [intOf]; omega
        · have hQP : (Q : Int) = P := by omega
          subst hQP
          clear F2
          by_cases hlow : R < 2 * ((Q : Int) - 1)
          · go_wp2
            go_ret
            exact ⟨rfl, below_drewN HB.out _⟩
          · have hT := F3.out (by omega) hR0'
            clear F3
            go_wp2_with fail
            refine (implToldAfter_any _ zs _ _ (HR.out.drewN _) (by omega)).mono ?_
            rintro e w5 ⟨rfl, b5⟩
            have HB2 : Hid (Below w.heap.size w w5) := (below_drewN HB.out _).trans (b5.mono (by simp; omega))
            clear b5
            generalize toldI (Q : Int) zs = T at *
            go_wp2
            go_ret
            exact ⟨rfl, HB2.out⟩
end Go.Proofs.Ytnpfjpihcdlmhaa

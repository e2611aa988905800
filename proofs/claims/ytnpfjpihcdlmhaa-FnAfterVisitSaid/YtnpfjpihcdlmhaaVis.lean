/- VisitsOk, of the program and of the reference. -/
import Derived.Test.YtnpfjpihcdlmhaaRange
import Derived.Test.YtnpfjpihcdlmhaaInts
namespace Go.Proofs.Ytnpfjpihcdlmhaa
open Go.RowKit

def visB (p : Int) (zs : List Int) : Bool := inB 1 5 p && (decide (zs.length ≤ 60) && allB 0 (p - 1) zs)

theorem visB_yes {p : Int} {zs : List Int} (h : visB p zs = true) : 1 ≤ p ∧ p ≤ 5 ∧ zs.length ≤ 60 ∧ ∀ z ∈ zs, 0 ≤ z ∧ z ≤ p - 1 := by
  simp only [visB, inB, allB, Bool.and_eq_true, decide_eq_true_eq, List.all_eq_true] at h
  exact ⟨h.1.1, h.1.2, h.2.1, fun z hz => h.2.2 z hz⟩

theorem allB_snoc {lo hi : Int} {zs : List Int} {k : Nat} {z : Int} (hk : k < zs.length) (hz : z = zs.getD k 0) (h : allB lo hi (zs.take k) = true) (hb : inB lo hi z = true) : allB lo hi (zs.take (k + 1)) = true := by
  rw [take_snoc zs k hk, ← hz]
  simp only [allB, List.all_append, List.all_cons, List.all_nil, Bool.and_true] at h ⊢
  rw [h, hb]; rfl
theorem allB_not {lo hi : Int} {zs : List Int} {k : Nat} {z : Int} (hk : k < zs.length) (hz : z = zs.getD k 0) (hb : inB lo hi z = false) : allB lo hi zs = false := by
  have hm : z ∈ zs := by rw [hz]; simp [List.getD, List.getElem?_eq_getElem hk]
  rw [allB, List.all_eq_false]
  exact ⟨z, hm, by simp [hb]⟩

set_option maxRecDepth 100000 in
theorem specVisitsOk_any (v : Value) (zs : List Int) (p : Int) (w : World) (h : Rd w v zs) (hp : -9223372036854775808 ≤ p ∧ p ≤ 9223372036854775807) :
    Calls Try.prog 19 #[.int .i64 p, v] w fun e w' => e = .returned (.bool (visB p zs)) ∧ w' = w := by
  obtain ⟨a1, c1, rfl, l1, m1, r1⟩ := h
  have hw : 1 ≤ p ∧ p ≤ 5 → wrap64 (p - 1) = p - 1 := fun h => IntWalk.wrap64_in _ (by omega)
  have HW := Lib.hid hw; clear hw
  go_enter Try.func19, Try.ntmps19
  go_wp2
  go_loop [5] (fun i => ∃ k : Nat, k ≤ zs.length ∧ i = .int .i64 k ∧ Hid (allB 0 (wrap64 (p - 1)) (zs.take k) = true)) (fun i => zs.length - (intOf i).toNat)
  case atStart => exact ⟨0, Nat.zero_le _, rfl, rfl⟩
  case round =>
    obtain ⟨k, hk, rfl, hno⟩ := hrel
    by_cases hlt : k < zs.length
    · obtain ⟨g1, o1, z, rfl, hg1, x1, HZ⟩ := rd_at r1 k hlt
      clear r1
      go_wp2_with fail
      refine (l1In_any _ _ _ _).mono ?_
      rintro e w' ⟨rfl, rfl⟩
      rcases Bool.eq_false_or_eq_true (inB 0 (wrap64 (p - 1)) z) with hb | hb
      · have ha := allB_snoc hlt HZ.out hno.out hb
        rw [hb]
        have HA := Lib.hid ha; clear ha hb
        go_wp2
        go_round
        case rel => exact ⟨k + 1, by omega, by go_num, HA⟩
        case measure => simp [intOf]; omega
      · have ha := allB_not hlt HZ.out hb
        rw [hb]
        have HA := Lib.hid ha; clear ha hb
        go_wp2
        go_ret
        refine ⟨ret_bool ?_, rfl⟩
        unfold visB
        cases hq : inB 1 5 p
        · rfl
        · rw [← HW.out (inB_in hq), HA.out]; simp
    · have hk' : k = zs.length := by omega
      subst hk'
      rw [List.take_length] at hno
      go_wp2_with fail
      refine (l1In_any _ _ _ _).mono ?_
      rintro e w' ⟨rfl, rfl⟩
      rcases Bool.eq_false_or_eq_true (inB 1 5 p) with hb | hb
      · have e1 : visB p zs = decide (zs.length ≤ 60) := by
          unfold visB
          rw [hb, ← HW.out (inB_in hb), hno.out]; simp
        rw [hb]
        have E1 := Lib.hid e1; clear e1 hb
        by_cases h60 : zs.length ≤ 60
        · go_wp2
          go_ret
          exact ⟨ret_bool (by rw [E1.out]; simp; omega), rfl⟩
        · go_wp2
          go_ret
          exact ⟨ret_bool (by rw [E1.out]; simp; omega), rfl⟩
      · have e1 : visB p zs = false := by unfold visB; rw [hb]; rfl
        rw [hb]
        have E1 := Lib.hid e1; clear e1 hb
        go_wp2
        go_ret
        exact ⟨ret_bool E1.out.symm, rfl⟩

set_option maxRecDepth 100000 in
theorem implVisitsOk_any (v : Value) (zs : List Int) (p : Int) (w : World) (h : Rd w v zs) :
    Calls Try.prog 21 #[.int .i64 p, v] w fun e w' => e = .returned (.bool (visB p zs)) ∧ Below w.heap.size w w' := by
  have hR := h
  obtain ⟨a1, c1, rfl, l1, m1, r1⟩ := h
  go_enter Try.func21, Try.ntmps21
  go_wp2_with fail
  refine (in_any _ _ _ _).mono ?_
  rintro e w' ⟨rfl, rfl⟩
  rcases Bool.eq_false_or_eq_true (inB 1 5 p) with hb | hb
  · have hp := inB_in hb
    rw [hb]
    by_cases h60 : zs.length ≤ 60
    · have e1 : visB p zs = allB 0 (p - 1) zs := by unfold visB; rw [hb]; simp [h60]
      have E1 := Lib.hid e1; clear e1 hb
      go_wp2_with fail
      refine (allIn_any _ zs _ _ _ hR).mono ?_
      rintro e w1 ⟨rfl, hbel⟩
      rw [← E1.out]
      go_wp2
      go_ret
      exact ⟨rfl, hbel⟩
    · have e1 : visB p zs = false := by unfold visB; simp [h60]
      have E1 := Lib.hid e1; clear e1 hb
      go_wp2
      go_ret
      exact ⟨ret_bool (by rw [E1.out]), Below.refl _ _⟩
  · have e1 : visB p zs = false := by unfold visB; rw [hb]; rfl
    rw [hb]
    have E1 := Lib.hid e1; clear e1 hb
    go_wp2
    go_ret
    exact ⟨ret_bool E1.out.symm, Below.refl _ _⟩
end Go.Proofs.Ytnpfjpihcdlmhaa

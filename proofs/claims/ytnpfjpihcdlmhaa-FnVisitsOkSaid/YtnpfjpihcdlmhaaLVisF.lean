/- The walk of the law on VisitsOk. -/
import Derived.Test.YtnpfjpihcdlmhaaVis
import Derived.Test.YtnpfjpihcdlmhaaDraws
import Derived.Test.YtnpfjpihcdlmhaaAlive
namespace Go.Proofs.Ytnpfjpihcdlmhaa
open Go.RowKit

theorem visB_nil (p : Int) : visB p [] = inB 1 5 p := by simp [visB, allB]
theorem visB_tail {p z : Int} {zs : List Int} (h : visB p (z :: zs) = true) : visB p zs = true := by
  simp only [visB, allB, Bool.and_eq_true, decide_eq_true_eq, List.all_cons] at h ⊢
  refine ⟨h.1, ?_, h.2.2.2⟩
  have := h.2.1
  rw [List.length_cons] at this
  omega
theorem rd_nil (w : World) (a : Option Addr) (c : Nat) (hc : c ≤ 9223372036854775807) : Rd w (.slice a 0 c) [] := ⟨a, c, rfl, by simp, hc, fun h => absurd h (by simp)⟩
theorem rd_tail {w : World} {g off c : Nat} {z : Int} {zs : List Int} (h : Rd w (.slice (some ⟨g, off, none⟩) (zs.length + 1) c) (z :: zs)) : Rd w (.slice (some ⟨g, off + 1, none⟩) zs.length (c - 1)) zs := by
  obtain ⟨a, c', e, h1, h2, h3⟩ := h
  injection e with e1 e2 e3
  subst e1 e3
  rw [List.length_cons] at h1
  refine ⟨_, _, rfl, by omega, by omega, fun h0 => ?_⟩
  obtain ⟨g', off', e, hg, hc⟩ := h3 (by simp)
  injection e with e
  injection e with e1 e2
  subst e1 e2
  refine ⟨_, _, rfl, hg, fun j hj => ?_⟩
  have := hc (j + 1) (by simp; omega)
  rw [show off + 1 + j = off + (j + 1) from by omega, this]
  simp

set_option maxRecDepth 100000 in
theorem walk_FnVisitsOk (a0 : Option Addr) (len0 cap0 : Nat) (z0 : List Int) (w : World) (w0 : IsRowB .u8 w a0 len0 cap0 z0) :
    Calls Try.prog 11 #[.slice a0 len0 cap0] w fun e w' => e = .returned (.bool true) ∧ Below w.heap.size w w' := by
  by_cases hlen : 1048576 < len0
  · go_enter Try.func11, Try.ntmps11
    go_wp2
    go_ret
    exact ⟨rfl, Below.refl _ _⟩
  · go_enter Try.func11, Try.ntmps11
    go_wp2_with fail
    refine (DrawVisitsOk_any _ _ _ _ _ w0).mono ?_
    rintro e w1 ⟨⟨P, v, zs, rfl, ⟨hP0, hP1, hl, hz, -⟩, ho⟩, b1⟩
    have hR := ho.rd
    have s1 := b1.size
    clear ho w0
    go_wp2_with fail
    refine (implVisitsOk_any _ zs _ _ hR).mono ?_
    rintro e w2 ⟨rfl, b2⟩
    have hR2 := hR.below b2
    have bb := b1.trans (b2.mono s1)
    have s2 := b2.size
    clear b1 b2 hR
    obtain ⟨b, hb⟩ : ∃ b, b = visB P zs := ⟨_, rfl⟩
    rw [← hb]
    have HV := Lib.hid hb; clear hb
    go_wp2_with fail
    refine (specVisitsOk_any _ zs _ _ hR2 (by omega)).mono ?_
    rintro e w3 ⟨rfl, rfl⟩
    rw [← HV.out]
    go_wp2_with fail
    refine (implVisitsOk_any _ [] _ _ (rd_nil _ _ _ (by omega))).mono ?_
    rintro e w4 ⟨rfl, b4⟩
    rw [visB_nil]
    have hR4 := hR2.below b4
    have bb4 := bb.trans (b4.mono (by omega))
    have s4 := b4.size
    clear b4 bb hR2
    have fin : ∀ (W : World), Below w.heap.size w W → Hid (Below w.heap.size w W) := fun _ h => h
    have HF := fin _ bb4
    clear fin bb4
    by_cases h1 : 1 ≤ P
    · rw [inB_true h1 hP1]
      have h5 : P ≤ 5 := hP1
      rcases b with _ | _
      · clear HV
        go_wp2_with fail
        refine (alive_true _).mono ?_
        rintro e w5 ⟨rfl, rfl⟩
        go_wp2
        go_ret
        exact ⟨rfl, HF.out⟩
      · rcases zs with _ | ⟨z, zs⟩
        · clear HV
          obtain ⟨a, c, e, -⟩ := hR4
          subst e
          go_wp2_with fail
          refine (alive_true _).mono ?_
          rintro e w5 ⟨rfl, rfl⟩
          go_wp2
          go_ret
          exact ⟨rfl, HF.out⟩
        · have HT := Lib.hid (visB_tail HV.out.symm)
          clear HV
          have hR5 := hR4
          obtain ⟨a, c, e, m1, m2, m3⟩ := hR4
          subst e
          obtain ⟨g, off, rfl, -⟩ := m3 (by simp)
          rw [List.length_cons] at *
          have hRt := rd_tail hR5
          have hne : (((zs.length + 1 : Nat) : Int) == 0) = false := by simp; omega
          clear m3 hR5
          by_cases hc1 : c = 1
          · subst hc1
            have hzs : zs = [] := List.eq_nil_of_length_eq_zero (by omega)
            subst hzs
            clear hne hRt
            go_wp2_with fail
            refine (implVisitsOk_any _ [] _ _ (rd_nil _ _ _ (by omega))).mono ?_
            rintro e w5 ⟨rfl, b5⟩
            rw [HT.out]
            have HF2 := Lib.hid (HF.out.trans (b5.mono (by omega)))
            clear b5
            go_wp2_with fail
            refine (alive_true _).mono ?_
            rintro e w6 ⟨rfl, rfl⟩
            go_wp2
            go_ret
            exact ⟨rfl, HF2.out⟩
          · go_wp2_with fail
            refine (implVisitsOk_any _ zs _ _ hRt).mono ?_
            rintro e w5 ⟨rfl, b5⟩
            rw [HT.out]
            have HF2 := Lib.hid (HF.out.trans (b5.mono (by omega)))
            clear b5
            go_wp2_with fail
            refine (alive_true _).mono ?_
            rintro e w6 ⟨rfl, rfl⟩
            go_wp2
            go_ret
            exact ⟨rfl, HF2.out⟩
    · rw [inB_false (by omega)]
      have hb : b = false := by
        cases b
        · rfl
        · have := visB_yes HV.out.symm; omega
      subst hb
      clear HV
      go_wp2_with fail
      refine (alive_true _).mono ?_
      rintro e w5 ⟨rfl, rfl⟩
      go_wp2
      go_ret
      exact ⟨rfl, HF.out⟩
end Go.Proofs.Ytnpfjpihcdlmhaa

/- AllFind of the reference: the walk. -/
import Derived.Test.YtdpijiccolbljaaLong
namespace Go.Proofs.Ytdpijiccolbljaa
open Go.RowKit

theorem find_all {ns : List Nat} (h : Perm7 ns) {t : Int} : (∀ p, p < ns.length → ((orb ns p).length : Int) ≤ t) ↔ (long ns : Int) ≤ t := by
  constructor
  · intro hp
    obtain ⟨p, hp1, e⟩ := h.long.wit
    have := hp p hp1
    rw [e] at this; exact this
  · intro hl p hp
    have := h.long.orb p hp
    omega

set_option maxHeartbeats 800000 in
set_option maxRecDepth 100000 in
theorem specAllFind_any (v : Value) (zs : List Int) (t : Int) (w : World) (h : Rd w v zs) :
    Calls Try.prog 29 #[v, .int .i64 t] w fun e w' => e = .returned (.bool (findB zs t)) ∧ Below w.heap.size w w' := by
  have hR := h
  obtain ⟨a1, c1, rfl, l1, m1, -⟩ := h
  go_enter Try.func29, Try.ntmps29
  go_wp2_with fail
  with_reducible refine (specBoxesOk_any _ zs _ hR).mono ?_
  rintro e w1 ⟨rfl, b1⟩
  have hR1 := Lib.hid (hR.below b1)
  have HB1 := Lib.hid b1
  have hs1 := b1.size
  clear b1
  rcases Bool.eq_false_or_eq_true (boxB zs) with hb | hb
  rotate_left
  · rw [hb]
    have HF := Lib.hid (findB_no (t := t) hb)
    clear hb
    go_wp2
    go_ret
    exact ⟨ret_bool HF.out.symm, HB1.out⟩
  rw [hb]
  obtain ⟨ns, rfl, hP⟩ := boxB_perm hb
  have HF := Lib.hid (findB_iz hP t)
  clear hb
  go_wp2_with fail
  with_reducible refine (l1In_any _ _ _ _).mono ?_
  rintro e w' ⟨rfl, rfl⟩
  rcases Bool.eq_false_or_eq_true (inB 0 7 t) with hb | hb
  rotate_left
  · rw [hb]
    have HF2 : Hid (findB (iz ns) t = false) := by unfold Hid; rw [HF.out, hb]; rfl
    clear hb
    go_wp2
    go_ret
    exact ⟨ret_bool HF2.out.symm, HB1.out⟩
  rw [hb]
  have HF2 : Hid (findB (iz ns) t = decide ((long ns : Int) ≤ t)) := by unfold Hid; rw [HF.out, hb]; rfl
  have HA := Lib.hid (find_all hP (t := t))
  have h7 := hP.hi
  rw [length_iz] at hR l1 hR1 ⊢
  obtain ⟨wo, hwo⟩ : ∃ wo : World, wo = w' := ⟨_, rfl⟩
  subst hwo
  clear hb hR
  go_wp2_with fail
  go_loopw [5] (fun i wr => ∃ k : Nat, k ≤ ns.length ∧ i = .int .i64 k ∧ Below wo.heap.size wo wr ∧ Hid (∀ p, p < k → ((orb ns p).length : Int) ≤ t)) (fun i _ => ns.length - (intOf i).toNat)
  case atStart => exact ⟨0, Nat.zero_le _, rfl, Below.refl _ _, fun p hp => absurd hp (by omega)⟩
  case round =>
    obtain ⟨k, hk, rfl, hb, hall⟩ := hrel
    by_cases hlt : k < ns.length
    · have hRr := hR1.out.below hb
      have HE := Lib.hid (openI_iz hP hlt)
      go_wp2_with fail
      with_reducible refine (specOpenedBy_any _ (iz ns) k _ hRr).mono ?_
      rintro e w3 ⟨v3, rfl, o3, b3⟩
      obtain ⟨A, c, rfl⟩ := own_form o3
      rw [HE.out, length_iz]
      have HB3 := Lib.hid (hb.trans (b3.mono hb.size))
      have hol := length_orb ns k
      obtain ⟨L, hL⟩ : ∃ L, L = (orb ns k).length := ⟨_, rfl⟩
      rw [← hL] at hol ⊢
      have HL := Lib.hid hL
      clear hL o3 b3 hb hRr
      by_cases hlong : t < (L : Int)
      · have HF3 : Hid (findB (iz ns) t = false) := by
          unfold Hid
          rw [HF2.out, decide_eq_false_iff_not, ← HA.out]
          intro hp
          have := hp k hlt
          rw [← HL.out] at this; omega
        go_wp2
        go_ret
        exact ⟨ret_bool HF3.out.symm, HB1.out.trans (HB3.out.mono hs1)⟩
      · have HALL : Hid (∀ p, p < k + 1 → ((orb ns p).length : Int) ≤ t) := fun p hp => by
          by_cases e : p = k
          · subst e; rw [← HL.out]; omega
          · exact hall.out p (by omega)
        go_wp2
        go_roundw
        case rel => exact ⟨k + 1, by omega, by go_num, HB3.out, HALL⟩
        case measure => simp [intOf]; omega
    · have hk' : k = ns.length := by omega
      subst hk'
      have HF3 : Hid (findB (iz ns) t = true) := by
        unfold Hid
        rw [HF2.out, decide_eq_true_iff, ← HA.out]
        exact hall.out
      have HB3 := Lib.hid (HB1.out.trans (hb.mono hs1))
      clear hb
      go_wp2
      go_ret
      exact ⟨ret_bool HF3.out.symm, HB3.out⟩
end Go.Proofs.Ytdpijiccolbljaa

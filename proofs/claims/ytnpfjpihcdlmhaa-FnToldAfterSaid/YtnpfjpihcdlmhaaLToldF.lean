/- The walk of the law on ToldAfter. -/
import Derived.Test.YtnpfjpihcdlmhaaSeenT
import Derived.Test.YtnpfjpihcdlmhaaDraws
import Derived.Test.YtnpfjpihcdlmhaaAlive
namespace Go.Proofs.Ytnpfjpihcdlmhaa
open Go.RowKit

theorem rd_take {w : World} {a : Option Addr} {c : Nat} {zs : List Int} (h : Rd w (.slice a zs.length c) zs) (k : Nat) (hk : k ≤ zs.length) : Rd w (.slice a k c) (zs.take k) := by
  obtain ⟨a', c', e, h1, h2, h3⟩ := h
  injection e with e1 e2 e3
  subst e1 e3
  have hl : (zs.take k).length = k := by rw [List.length_take]; omega
  refine ⟨_, _, by rw [hl], by omega, h2, fun h0 => ?_⟩
  obtain ⟨g, off, e, hg, hc⟩ := h3 (by omega)
  refine ⟨g, off, e, hg, fun j hj => ?_⟩
  rw [hc j (by omega)]
  simp only [List.getD]
  rw [List.getElem?_take_of_lt (by omega)]

set_option maxRecDepth 100000 in
theorem walk_FnToldAfter (a0 : Option Addr) (len0 cap0 : Nat) (z0 : List Int) (w : World) (w0 : IsRowB .u8 w a0 len0 cap0 z0) :
    Calls Try.prog 16 #[.slice a0 len0 cap0] w fun e w' => e = .returned (.bool true) ∧ Below w.heap.size w w' := by
  by_cases hlen : 1048576 < len0
  · go_enter Try.func16, Try.ntmps16
    go_wp2
    go_ret
    exact ⟨rfl, Below.refl _ _⟩
  · go_enter Try.func16, Try.ntmps16
    go_wp2_with fail
    refine (DrawToldAfter_any _ _ _ _ _ w0).mono ?_
    rintro e w1 ⟨⟨P, v, zs, rfl, ⟨hP0, hP1, hl, hz, -⟩, ho⟩, b1⟩
    have hR := ho.rd
    have s1 := b1.size
    have hzb : ∀ z ∈ zs, -9223372036854775808 ≤ z ∧ z ≤ 9223372036854775807 := fun z h => by have := hz z h; omega
    have HZ := Lib.hid hzb
    clear ho w0 hzb hz
    go_wp2_with fail
    refine (implToldAfter_any _ zs _ _ hR (by omega)).mono ?_
    rintro e w2 ⟨rfl, b2⟩
    have hR2 := hR.below b2
    have bb := b1.trans (b2.mono s1)
    have s2 := b2.size
    clear b1 b2 hR
    obtain ⟨n, hn⟩ : ∃ n, n = toldI P zs := ⟨_, rfl⟩
    rw [← hn]
    have HV := Lib.hid hn
    have hbd : n = -1 ∨ 0 ≤ n ∧ n ≤ 60 ∧ (P = 1 → n = 0) := by
      rcases Bool.eq_false_or_eq_true (visB P zs) with hb | hb
      · have h3 := (visB_yes hb).2.2.1
        by_cases hP : P = 1
        · right; rw [hn]; unfold toldI; rw [if_pos hb, if_pos hP]; exact ⟨by omega, by omega, fun _ => rfl⟩
        · by_cases h0 : 0 ≤ n
          · obtain ⟨k, e, h1, h2, -⟩ := toldI_pos hn h0 hP
            right; exact ⟨by omega, by omega, fun h => absurd h hP⟩
          · left
            have : n = toldFrom P zs := by rw [hn]; unfold toldI; rw [if_pos hb, if_neg hP]
            unfold toldFrom at this
            split at this <;> omega
      · left; rw [hn]; unfold toldI; rw [if_neg (by simp [hb])]
    clear hn
    go_wp2_with fail
    refine (specToldAfter_any _ zs _ _ hR2 (by omega)).mono ?_
    rintro e w3 ⟨rfl, b3⟩
    rw [← HV.out]
    have hR3 := hR2.below b3
    have HF := Lib.hid (bb.trans (b3.mono (by omega)))
    have s3 := b3.size
    clear bb b3 hR2
    rcases hbd with rfl | ⟨hn0, hn1, hn2⟩
    · go_wp2_with fail
      refine (alive_true _).mono ?_
      rintro e w5 ⟨rfl, rfl⟩
      go_wp2
      go_ret
      exact ⟨rfl, HF.out⟩
    · by_cases hP : P = 1
      · have hn := hn2 hP
        subst hn hP
        go_wp2_with fail
        go_ret
        exact ⟨rfl, HF.out⟩
      · obtain ⟨k, rfl, k0, kl, kv, ks, kt⟩ := toldI_pos HV.out hn0 hP
        have KS := Lib.hid ks; have KT := Lib.hid kt
        have hPq : (P == 1) = false := by simpa using hP
        have hR4 := hR3
        obtain ⟨a, c, e, m1, m2, m3⟩ := hR3
        subst e
        obtain ⟨g, off, rfl, -⟩ := m3 (by omega)
        have hRk := rd_take hR4 k kl
        have hRk1 := rd_take hR4 (k - 1) (by omega)
        have ek : ((k : Int) - 1) = ((k - 1 : Nat) : Int) := by omega
        clear m3 kv ks kt hn2 hR4
        go_wp2_with fail
        refine (implSeenBy_any _ (zs.take k) _ _ hRk (fun z h => HZ.out z (List.mem_of_mem_take h))).mono ?_
        rintro e w5 ⟨rfl, b5⟩
        rw [KS.out]
        have hRk5 := hRk1.below b5
        have HF2 := Lib.hid (HF.out.trans (b5.mono (by omega)))
        have s5 := b5.size
        clear b5 hRk hRk1 HF
        go_wp2_with fail
        refine (implToldAfter_any _ (zs.take (k - 1)) _ _ hRk5 (by omega)).mono ?_
        rintro e w6 ⟨rfl, b6⟩
        rw [KT.out]
        have HF3 := Lib.hid (HF2.out.trans (b6.mono (by omega)))
        clear b6
        go_wp2_with fail
        go_ret
        exact ⟨rfl, HF3.out⟩
end Go.Proofs.Ytnpfjpihcdlmhaa

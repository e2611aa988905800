/- The walk of the law on SayingsOk. -/
import Derived.Test.YtajelgheccfcoaaDrawSa
import Derived.Test.YtajelgheccfcoaaSayOkS
import Derived.Test.YtajelgheccfcoaaAlive
import Derived.Test.YtajelgheccfcoaaWaysP
namespace Go.Proofs.Ytajelgheccfcoaa
open Go.RowKit

theorem syR_brief {p : Int} {ps : List Sy} (h : SyR p ps) : Brief ps := fun q hq => by have := (h.2.2.2 q hq).1; omega
theorem rdS_nil (w : World) : RdS w (.slice none 0 0) [] := ⟨none, 0, rfl, Nat.le_refl _, by omega, fun h => absurd h (by simp)⟩
theorem brief_nil : Brief [] := fun q hq => by cases hq
theorem rdS_any0 (w : World) (a : Option Addr) (c : Nat) (hc : c ≤ 9223372036854775807) : RdS w (.slice a 0 c) [] := ⟨a, c, rfl, Nat.zero_le _, hc, fun h => absurd h (by simp)⟩
theorem rdS_tail {w : World} {g off c : Nat} {q : Sy} {t : List Sy} (h : RdS w (.slice (some ⟨g, off, none⟩) (q :: t).length c) (q :: t)) : RdS w (.slice (some ⟨g, off + 2, none⟩) t.length (c - 1)) t := by
  obtain ⟨a, c', e, h1, h2, h3⟩ := h
  injection e with e1 e2 e3
  subst e1 e3
  rw [List.length_cons] at h1
  refine ⟨_, c - 1, rfl, by omega, by omega, fun h0 => ?_⟩
  obtain ⟨g', off', e4, hg, hc⟩ := h3 (by simp)
  injection e4 with e4
  injection e4 with e4 e5
  subst e4 e5
  refine ⟨g, off + 2, rfl, hg, fun j hj => ?_⟩
  have := hc (j + 1) (by simp; omega)
  rw [show off + 2 + j * 2 = off + (j + 1) * 2 by omega]
  simpa using this
theorem sayB_nil (p : Int) : sayB p [] = inB 1 5 p := by unfold sayB; simp
theorem sayB_tail {p : Int} {q : Sy} {ps : List Sy} (h : sayB p (q :: ps) = true) : sayB p ps = true := by
  obtain ⟨h1, h2, h3⟩ := sayB_yes h
  rw [List.length_cons] at h2
  unfold sayB
  rw [inB_true h1.1 h1.2, decide_eq_true (by omega), List.all_eq_true.2 fun x hx => h3 x (by simp [hx])]; rfl

set_option maxHeartbeats 3200000 in
set_option maxRecDepth 100000 in
theorem walk_FnSayingsOk (a0 : Option Addr) (len0 cap0 : Nat) (z0 : List Int) (w : World) (w0 : IsRowB .u8 w a0 len0 cap0 z0) :
    Calls Try.prog 7 #[.slice a0 len0 cap0] w fun e w' => e = .returned (.bool true) ∧ Below w.heap.size w w' := by
  by_cases hlen : 1048576 < len0
  · go_enter Try.func7, Try.ntmps7
    go_wp2
    go_ret
    exact ⟨rfl, Below.refl _ _⟩
  · go_enter Try.func7, Try.ntmps7
    go_wp2_with fail
    with_reducible refine (DrawSayingsOk_any _ _ _ _ _ w0).mono ?_
    rintro e w1 ⟨⟨p, v, ps, rfl, hs, ho⟩, b1⟩
    have HS := Lib.hid hs
    have HBF := Lib.hid (syR_brief hs)
    have HR1 := Lib.hid ho.rd
    have HB1 := Lib.hid b1
    obtain ⟨hp0, hp5, hl4, -⟩ := hs
    clear ho b1 w0
    go_wp2_with fail
    with_reducible refine (implSayingsOk_any p v ps w1 HBF.out HR1.out).mono ?_
    rintro e w2 ⟨rfl, b2⟩
    have HR2 := Lib.hid (HR1.out.below b2 (Nat.le_refl _))
    have HB2 := Lib.hid (HB1.out.trans (b2.mono HB1.out.size))
    clear b2
    go_wp2_with fail
    with_reducible refine (specSayingsOk_any p v ps w2 HBF.out HR2.out).mono ?_
    rintro e w3 ⟨rfl, m, rfl⟩
    have HR3 : Hid (RdS (w2.drewN m) v ps) := HR2.out
    have HB3 := Lib.hid (below_drewN HB2.out m)
    generalize w2.drewN m = w3 at *
    clear HR2 HB2 HR1 HB1
    obtain ⟨b, hb⟩ : ∃ b, b = sayB p ps := ⟨_, rfl⟩
    rw [← hb]
    have HBB := Lib.hid hb
    clear hb
    go_wp2_with fail
    with_reducible refine (implSayingsOk_any p (.slice none 0 0) [] w3 brief_nil (rdS_nil w3)).mono ?_
    rintro e w4 ⟨rfl, b4⟩
    have HR4 := Lib.hid (HR3.out.below b4 (Nat.le_refl _))
    have HB4 := Lib.hid (HB3.out.trans (b4.mono HB3.out.size))
    clear b4 HR3 HB3
    rw [sayB_nil]
    have hcase : (p = 0 ∧ inB 1 5 p = false) ∨ (1 ≤ p ∧ inB 1 5 p = true) := by
      by_cases h : 1 ≤ p
      · exact .inr ⟨h, inB_true h hp5⟩
      · exact .inl ⟨by omega, inB_false (by omega)⟩
    obtain ⟨a4, c4, rfl, l4, m4, r4⟩ := HR4.out
    have HT : Hid (∀ q t, ps = q :: t → b = true → Brief t ∧ sayB p t = true) := fun q t e hb => by
      subst e
      exact ⟨fun x hx => HBF.out x (by simp [hx]), sayB_tail (by rw [← HBB.out]; exact hb)⟩
    rcases hcase with ⟨rfl, hin⟩ | ⟨hp1, hin⟩
    · rw [hin]
      have hb : b = false := by rw [HBB.out, sayB_out (by omega)]
      subst hb
      go_wp2_with fail
      with_reducible refine (alive_true _).mono ?_
      rintro e w' ⟨rfl, rfl⟩
      go_wp2
      go_ret
      exact ⟨rfl, HB4.out⟩
    · rw [hin]
      have g1 : decide ((1 : Int) ≤ p) = true := by simpa using hp1
      have g2 : decide (p ≤ 5) = true := by simpa using hp5
      cases b with
      | false =>
        go_wp2_with fail
        with_reducible refine (alive_true _).mono ?_
        rintro e w' ⟨rfl, rfl⟩
        go_wp2
        go_ret
        exact ⟨rfl, HB4.out⟩
      | true =>
        cases ps with
        | nil =>
          go_wp2_with fail
          with_reducible refine (alive_true _).mono ?_
          rintro e w' ⟨rfl, rfl⟩
          go_wp2
          go_ret
          exact ⟨rfl, HB4.out⟩
        | cons q t =>
          obtain ⟨hbt, hst⟩ := HT.out q t rfl rfl
          obtain ⟨g, off, e, hg, hc⟩ := r4 (by simp)
          subst e
          have HBT := Lib.hid hbt
          have HST := Lib.hid hst
          rw [List.length_cons] at l4
          have hl4' : t.length + 1 ≤ 4 := hl4
          clear hbt hst r4
          have hr := rdS_tail HR4.out
          have HRT := Lib.hid hr
          clear hr
          by_cases hc1 : c4 = 1
          · have ht0 : t = [] := List.length_eq_zero_iff.1 (by omega)
            subst ht0
            subst hc1
            go_wp2_with fail
            with_reducible refine (implSayingsOk_any p _ [] w4 brief_nil (rdS_any0 w4 _ _ (by omega))).mono ?_
            rintro e w5 ⟨rfl, b5⟩
            rw [HST.out]
            have HB5 := Lib.hid (HB4.out.trans (b5.mono HB4.out.size))
            clear b5
            go_wp2_with fail
            with_reducible refine (alive_true _).mono ?_
            rintro e w' ⟨rfl, rfl⟩
            go_wp2
            go_ret
            exact ⟨rfl, HB5.out⟩
          · go_wp2_with fail
            with_reducible refine (implSayingsOk_any p _ t w4 HBT.out HRT.out).mono ?_
            rintro e w5 ⟨rfl, b5⟩
            rw [HST.out]
            have HB5 := Lib.hid (HB4.out.trans (b5.mono HB4.out.size))
            clear b5
            go_wp2_with fail
            with_reducible refine (alive_true _).mono ?_
            rintro e w' ⟨rfl, rfl⟩
            go_wp2
            go_ret
            exact ⟨rfl, HB5.out⟩
end Go.Proofs.Ytajelgheccfcoaa

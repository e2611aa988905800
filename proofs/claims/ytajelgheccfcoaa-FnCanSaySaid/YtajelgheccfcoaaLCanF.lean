/- The walk of the law on CanSay. -/
import Derived.Test.YtajelgheccfcoaaDrawSa
import Derived.Test.YtajelgheccfcoaaCanP
import Derived.Test.YtajelgheccfcoaaSayOkS
import Derived.Test.YtajelgheccfcoaaKnownI
import Derived.Test.YtajelgheccfcoaaAlive
namespace Go.Proofs.Ytajelgheccfcoaa
open Go.RowKit

theorem brief_add {p : Int} {ps : List Sy} {b : Int} {l : List UInt8} (h : SyR p ps) (hl : l.length ≤ 40) : Brief (ps ++ [(b, l)]) := fun q hq => by
  rcases List.mem_append.1 hq with hq | hq
  · have := (h.2.2.2 q hq).1; omega
  · rw [List.mem_singleton.1 hq]; show l.length < _; omega
theorem can_no {p : Int} {ps : List Sy} {q : Sy} (h : sayB p ps = false ∨ okB p q = false) : canI p ps q = false := by
  unfold canI
  have : waysI p (ps ++ [q]) = [] := by
    unfold waysI
    rcases h with h | h
    · rw [sayB_more h]; rfl
    · rw [if_neg]
      intro hs
      have := (sayB_yes hs).2.2 q (by simp)
      rw [h] at this; cases this
  rw [this]; simp

set_option maxHeartbeats 6400000 in
set_option maxRecDepth 100000 in
theorem walk_FnCanSay (a0 : Option Addr) (len0 cap0 : Nat) (z0 : List Int) (w : World) (w0 : IsRowB .u8 w a0 len0 cap0 z0) :
    Calls Try.prog 9 #[.slice a0 len0 cap0] w fun e w' => e = .returned (.bool true) ∧ Below w.heap.size w w' := by
  by_cases hlen : 1048576 < len0
  · go_enter Try.func9, Try.ntmps9
    go_wp2
    go_ret
    exact ⟨rfl, Below.refl _ _⟩
  · go_enter Try.func9, Try.ntmps9
    go_wp2_with fail
    with_reducible refine (DrawCanSay_any _ _ _ _ _ w0).mono ?_
    rintro e w1 ⟨⟨p, v, ps, y, l, rfl, hs, ho, hl40, hy0, hy9⟩, b1⟩
    have hl4 := hs.2.2.1
    have HBA := Lib.hid (fun b (l : List UInt8) (hl : l.length ≤ 40) => brief_add (b := b) hs hl)
    have HBF : Hid (Brief ps) := fun q hq => HBA.out 0 [] (by simp) q (by simp [hq])
    have HR1 := Lib.hid ho.rd
    have HB1 := Lib.hid b1
    clear ho b1 w0 hs
    have HI := Lib.hid (fun b (l : List UInt8) (hl : l.length ≤ 40) W (hr : RdS W v ps) => implCanSay_any p v ps b l W (HBA.out b l hl) hr (by omega))
    have HSP := Lib.hid (fun W (hr : RdS W v ps) => specCanSay_any p v ps y l W (HBA.out y l hl40) hr)
    have HIL := Lib.hid (HI.out y l hl40)
    have HNO : Hid (sayB p ps = false ∨ okB p (y, l) = false → canI p ps (y, l) = false) := can_no
    obtain ⟨C, hC⟩ : ∃ C, C = canI p ps (y, l) := ⟨_, rfl⟩
    rw [← hC] at HSP HIL HNO
    have HOB : Hid (¬ (y < p) → okB p (y, l) = false) := fun h => by
      unfold okB; rw [inB_false (by show ¬ (0 ≤ y ∧ y ≤ p - 1); omega)]; rfl
    clear hC hl40
    generalize tx l = T at *
    go_wp2_with fail
    with_reducible refine (HIL.out _ HR1.out).mono ?_
    rintro e w2 ⟨rfl, b2⟩
    have HR2 := Lib.hid (HR1.out.below b2 (Nat.le_refl _))
    have HB2 := Lib.hid (HB1.out.trans (b2.mono HB1.out.size))
    clear b2 HR1 HB1
    go_wp2_with fail
    with_reducible refine (HSP.out _ HR2.out).mono ?_
    rintro e w3 ⟨rfl, b3⟩
    have HR3 := Lib.hid (HR2.out.below b3 (Nat.le_refl _))
    have HB3 := Lib.hid (HB2.out.trans (b3.mono HB2.out.size))
    clear b3 HR2 HB2
    go_wp2_with fail
    with_reducible refine (specSayingsOk_any p v ps w3 HBF.out HR3.out).mono ?_
    rintro e w4 ⟨rfl, n4, rfl⟩
    have HR4 : Hid (RdS (w3.drewN n4) v ps) := HR3.out
    have HB4 := Lib.hid (below_drewN HB3.out n4)
    generalize w3.drewN n4 = w4 at *
    clear HR3 HB3
    rcases Bool.eq_false_or_eq_true (sayB p ps) with hsb | hsb
    · rw [hsb]
      obtain ⟨hp, -, -⟩ := sayB_yes hsb
      by_cases hyp : y < p
      · obtain ⟨P, rfl⟩ := Int.eq_ofNat_of_zero_le (show 0 ≤ p by omega)
        obtain ⟨b, rfl⟩ := Int.eq_ofNat_of_zero_le hy0
        have hP : 1 ≤ P ∧ P ≤ 5 := by omega
        have hbP : b < P := by omega
        have HCB := Lib.hid (can_bang (ps := ps) hP hbP)
        have HCO := Lib.hid (can_own (ps := ps) hP hbP hsb (by omega))
        have HX1 := Lib.hid (HI.out (b : Int) (33 :: ownT b) (by simp [ownT]))
        have HX2 := Lib.hid (HI.out (b : Int) (ownT b) (by simp [ownT]))
        rw [HCB.out, ← bang_own] at HX1
        rw [HCO.out] at HX2
        have hs1 : (tx (ownT b)).size = 1 := rfl
        have HOW : Hid (tx (ownT b) = tx [48 + UInt8.ofNat b]) := rfl
        have HWW := Lib.hid (fun W (hr : RdS W v ps) => implWaysOf_any (P : Int) v ps W HBF.out hr)
        rw [waysI_N] at HWW
        generalize waysN (P : Int) ps = ks at *
        have hcv := one_text
        have hb5 : b ≤ 4 := by omega
        have g0 : decide ((b : Int) < 0) = false := by simp
        have g1 : decide ((P : Int) ≤ (b : Int)) = false := by simp; omega
        have g1' : decide (P ≤ b) = false := by simp; omega
        obtain ⟨A, c, rfl, l4, m4, -⟩ := HR4.out
        have g2 : decide ((6 : Int) ≤ (ps.length : Int)) = false := by simp; omega
        have g2' : decide (6 ≤ ps.length) = false := by simp; omega
        have HB5 := Lib.hid (HB4.out.alloc HB4.out.size (.cells #[.int .u8 (48 + (b : Int))] 5))
        have HR5 := Lib.hid (HR4.out.below ((Below.refl w4.heap.size w4).alloc (Nat.le_refl _) (.cells #[.int .u8 (48 + (b : Int))] 5)) (Nat.le_refl _))
        clear HCB HCO HI HBA HNO HOB HSP HIL hsb hp hbP
        obtain ⟨W5, hW5⟩ : ∃ W5, W5 = w4.alloc (.cells #[.int .u8 (48 + (b : Int))] 5) := ⟨_, rfl⟩
        rw [← hW5] at HB5 HR5
        have HW5 := Lib.hid hW5
        rw [HOW.out] at HX1 HX2 hs1
        clear hW5
        go_wp2_with fail
        rw [← HW5.out]
        with_reducible refine (HX1.out _ HR5.out).mono ?_
        rintro e w6 ⟨rfl, b6⟩
        have HR6 := Lib.hid (HR5.out.below b6 (Nat.le_refl _))
        have HB6 := Lib.hid (HB5.out.trans (b6.mono HB5.out.size))
        clear b6
        go_wp2_with fail
        with_reducible refine (HX2.out _ HR6.out).mono ?_
        rintro e w7 ⟨rfl, b7⟩
        have HR7 := Lib.hid (HR6.out.below b7 (Nat.le_refl _))
        have HB7 := Lib.hid (HB6.out.trans (b7.mono HB6.out.size))
        clear b7
        go_wp2_with fail
        with_reducible refine (HWW.out _ HR7.out).mono ?_
        rintro e w8 ⟨v8, rfl, o8, b8⟩
        obtain ⟨a8, c8, rfl, -, -, -⟩ := rd_nat o8.rd
        have HB8 := Lib.hid (HB7.out.trans (b8.mono HB7.out.size))
        clear o8 b8
        go_wp2
        go_ret
        exact ⟨ret_bool (by simp), HB8.out⟩
      · have hc : C = false := HNO.out (.inr (HOB.out (by omega)))
        subst hc
        have g0 : decide (y < 0) = false := by simp; omega
        have g1 : decide (p ≤ y) = true := by simp; omega
        go_wp2_with fail
        with_reducible refine (alive_true _).mono ?_
        rintro e w' ⟨rfl, rfl⟩
        go_wp2
        go_ret
        exact ⟨rfl, HB4.out⟩
    · rw [hsb]
      have hc : C = false := HNO.out (.inl hsb)
      subst hc
      go_wp2_with fail
      with_reducible refine (alive_true _).mono ?_
      rintro e w' ⟨rfl, rfl⟩
      go_wp2
      go_ret
      exact ⟨rfl, HB4.out⟩
end Go.Proofs.Ytajelgheccfcoaa

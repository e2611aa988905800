/- What is paid, at the implementation. -/
import Derived.Test.YtcgpfdknadijlaaCoJ
namespace Go.Proofs.Ytcgpfdknadijlaa
open Go.RowKit

set_option maxHeartbeats 3200000 in
set_option maxRecDepth 100000 in
theorem implPaidFor_any (v : Value) (zs : List Int) (l : List UInt8) (x : Int) (w : World) (h : Rd w v zs) (hl : l.length ≤ 60) :
    Calls Try.prog 15 #[v, .string (tx l), .int .i64 x] w fun e w' => e = .returned (.int .i64 (paidI zs l x)) ∧ Below w.heap.size w w' := by
  have T := Lib.hid (implPricesOk_any v zs w h)
  have HR := Lib.hid h
  have HO : Hid (paidI zs l x = if priceB zs && inB 0 ((zs.length : Int) - 1) x then (match okW zs.length l with | some t => t.paid zs x.toNat | none => -1) else -1) := rfl
  obtain ⟨a, c, rfl, l1, m1, -⟩ := h
  rcases Bool.eq_false_or_eq_true (priceB zs) with hp | hp
  · obtain ⟨h9, hz⟩ := priceB_yes hp
    rcases Bool.eq_false_or_eq_true (inB 0 ((zs.length : Int) - 1) x) with hx | hx
    · obtain ⟨hx0, hx1⟩ := inB_in hx
      obtain ⟨X, rfl⟩ := Int.eq_ofNat_of_zero_le hx0
      have HXI := Lib.hid hx
      have HZ := Lib.hid hz
      have HW := Lib.hid (fun W => wayOf_any zs.length l W h9 hl)
      have HIN := Lib.hid (fun t (ht : okW zs.length l = some t) => okW_in ht)
      have HO2 : Hid (paidI zs l (X : Int) = match okW zs.length l with | some t => t.paid zs X | none => -1) := by
        unfold Hid; rw [HO.out, hp, hx]; rfl
      rw [hp] at T
      generalize okW zs.length l = ok at *
      generalize tx l = S at *
      clear hz hp hx HO
      go_enter Try.func15, Try.ntmps15
      go_wp2_with fail
      with_reducible refine T.out.mono ?_
      rintro e w1 ⟨rfl, b1⟩
      have HB1 := Lib.hid b1
      have HR1 := Lib.hid (HR.out.below b1)
      clear b1
      go_wp2_with fail
      with_reducible refine (in_any _ _ _ _).mono ?_
      rintro e w' ⟨rfl, rfl⟩
      rw [HXI.out]
      go_wp2_with fail
      with_reducible refine (HW.out _).mono ?_
      rintro e w2 ⟨⟨u, rfl, hu⟩, b2⟩
      have HB2 := Lib.hid (HB1.out.trans (b2.mono HB1.out.size))
      have HR2 := Lib.hid (HR1.out.below b2)
      clear b2
      cases ok with
      | none =>
        go_wp2
        go_ret
        exact ⟨ret_int HO2.out.symm, HB2.out⟩
      | some t =>
        obtain ⟨hi, hs⟩ := HIN.out t rfl
        have HT := Lib.hid (hu t rfl)
        have HTI := Lib.hid hi
        have hpl := (paid_le HZ.out X t).2
        have hct := (cost_nonneg HZ.out t).2
        have HTOT : Hid (t.paid zs X ≤ 450) := by unfold Hid; omega
        have HPL := Lib.hid (fun t => paid_le HZ.out X t)
        obtain ⟨lo, hlo⟩ : ∃ lo, lo = w'.heap.size := ⟨_, rfl⟩
        rw [← hlo] at HT
        have HS9 : Hid (t.size ≤ 9) := by unfold Hid; omega
        clear hu hi hs hpl hct hlo
        go_wp2_with fail
        go_loopg [7, 9] t.size (fun gh vt pd wr => ∃ (t' : Wy) (n' m' : Nat) (u' : Option Addr) (P : Int) (q : Nat), gh = t'.size ∧ vt = .pointer u' ∧ Hid (TreeAt w2 lo t' (.pointer u')) ∧ Hid (t'.In n' m') ∧ m' ≤ zs.length ∧ t'.size ≤ 9 ∧ pd = .int .i64 P ∧ 0 ≤ P ∧ Hid (P + t'.paid zs X = t.paid zs X) ∧ wr = w2.drewN q)
        case atStart => exact ⟨t, 0, zs.length, u, 0, 0, rfl, rfl, HT, HTI, Nat.le_refl _, HS9.out, rfl, Int.le_refl _, by unfold Hid; omega, rfl⟩
        case round =>
          obtain ⟨t', n', m', u', P, q, rfl, rfl, ht, hi, hm, hs9, rfl, hP, hsum, rfl⟩ := hrel
          have TM : Hid (∀ W, W = w2.drewN q → Calls Try.prog 32 #[.pointer u'] W fun e w' => e = .returned (.int .i64 (t'.size : Int)) ∧ ∃ n, w' = W.drewN n) := fun W hW => many_any lo t' _ W (by rw [hW]; exact ht.out.drewN q) (by omega)
          have TM2 := Lib.hid (TM.out _ rfl)
          cases t' with
          | leaf =>
            have hP2 : Hid (P = t.paid zs X) := by unfold Hid; have := hsum.out; simp only [Wy.paid] at this; omega
            clear TM
            go_wp2_with fail
            with_reducible refine TM2.out.mono ?_
            rintro e w5 ⟨rfl, k5, rfl⟩
            go_wp2
            go_ret
            exact ⟨ret_int (by rw [HO2.out, hP2.out]), below_drewN HB2.out _⟩
          | node g b o =>
            obtain ⟨k, u1, u2, -, e1, hk, hb, ho⟩ := ht.out
            obtain ⟨hib, hio⟩ := hi.out
            have hsz : (Wy.node g b o).size = 1 + b.size + o.size := rfl
            have hgm : g < m' := by have := hio.size; omega
            injection e1 with e1
            subst e1
            obtain ⟨⟨c0, c1, c2⟩, -, -, -, -⟩ := blk3 hk
            have hpd : (Wy.node g b o).paid zs X = if b.size + o.size = 0 then 0 else zs.getD g 0 + (if X < g then b.paid zs X else if g < X then o.paid zs X else 0) := rfl
            rw [hsz] at TM2 hs9
            by_cases h0 : b.size + o.size = 0
            · have hP2 : Hid (P = t.paid zs X) := by unfold Hid; have := hsum.out; rw [hpd, if_pos h0] at this; omega
              have e2 : ((1 + b.size + o.size : Nat) : Int) = 1 := by omega
              rw [e2] at TM2
              clear TM hpd e2
              go_wp2_with fail
              with_reducible refine TM2.out.mono ?_
              rintro e w5 ⟨rfl, k5, rfl⟩
              go_wp2
              go_ret
              exact ⟨ret_int (by rw [HO2.out, hP2.out]), below_drewN HB2.out _⟩
            · rw [if_neg h0] at hpd
              obtain ⟨a2, c2', e3, -, -, r2⟩ := HR2.out
              injection e3 with e4 e5 e6
              subst e4 e6
              obtain ⟨ga, oa, z, e7, hga, x1, HZ1⟩ := rd_at r2 g (by omega)
              subst e7
              have hz1 : 0 ≤ z ∧ z ≤ 50 := by
                rw [HZ1.out]; exact HZ.out _ (by simp [List.getD, List.getElem?_eq_getElem (show g < zs.length by omega)])
              have hg1 : (g : Int) < zs.length := by omega
              rw [← HZ1.out] at hpd
              have hPb : P ≤ 450 := by
                have h3 := hsum.out
                have h4 := (HPL.out (Wy.node g b o)).1
                have := HTOT.out
                omega
              have hs1 : (1 : Int) < ((1 + b.size + o.size : Nat) : Int) := by omega
              obtain ⟨s, hss⟩ : ∃ s : Nat, s = 1 + b.size + o.size := ⟨_, rfl⟩
              rw [← hss] at TM2 hs1
              have hd1 : decide ((1 : Int) < (s : Int)) = true := by simpa using hs1
              have HSS := Lib.hid hss
              have hsb : Hid (P + (Wy.node g b o).paid zs X = t.paid zs X) := hsum
              rw [hpd] at hsb
              have HPZ := Lib.hid hsb
              clear TM hpd hsum hss h0 r2 HZ1 hsb hs1
              go_wp2_with fail
              with_reducible refine TM2.out.mono ?_
              rintro e w5 ⟨rfl, k5, rfl⟩
              rw [World.drewN_drewN]
              by_cases hlt : X < g
              · have q1 : decide ((X : Int) < (g : Int)) = true := by simp; omega
                have q1' : decide (X < g) = true := by simp; omega
                have HN : Hid ((P + z) + b.paid zs X = t.paid zs X) := by
                  unfold Hid; have := HPZ.out.out; rw [if_pos hlt] at this; omega
                clear hlt
                go_wp2
                go_roundg b.size
                case measure => simp only [Wy.size]; omega
                case rel => exact ⟨b, n', g, u1, P + z, _, rfl, rfl, hb, hib, by omega, by omega, by go_num, by omega, HN, rfl⟩
              · have q1 : decide ((X : Int) < (g : Int)) = false := by simp; omega
                have q1' : decide (X < g) = false := by simp; omega
                by_cases hgt : g < X
                · have q2 : decide ((g : Int) < (X : Int)) = true := by simp; omega
                  have q2' : decide (g < X) = true := by simp; omega
                  have HN : Hid ((P + z) + o.paid zs X = t.paid zs X) := by
                    unfold Hid; have := HPZ.out.out; rw [if_neg hlt, if_pos hgt] at this; omega
                  clear hlt hgt
                  go_wp2
                  go_roundg o.size
                  case measure => simp only [Wy.size]; omega
                  case rel => exact ⟨o, g + 1, m', u2, P + z, _, rfl, rfl, ho, hio, by omega, by omega, by go_num, by omega, HN, rfl⟩
                · have q2 : decide ((g : Int) < (X : Int)) = false := by simp; omega
                  have q2' : decide (g < X) = false := by simp; omega
                  have HN : Hid ((P + z) = t.paid zs X) := by
                    unfold Hid; have := HPZ.out.out; rw [if_neg hlt, if_neg hgt] at this; omega
                  clear hlt hgt
                  go_wp2
                  go_ret
                  exact ⟨ret_int (by rw [HO2.out]; show P + z = _; rw [HN.out]), below_drewN HB2.out _⟩
    · have HO2 : Hid (paidI zs l x = -1) := by unfold Hid; rw [HO.out, hp, hx]; rfl
      have HXI := Lib.hid hx
      rw [hp] at T
      clear hp hx
      generalize tx l = S at *
      go_enter Try.func15, Try.ntmps15
      go_wp2_with fail
      with_reducible refine T.out.mono ?_
      rintro e w1 ⟨rfl, b1⟩
      have HB1 := Lib.hid b1
      clear b1
      go_wp2_with fail
      with_reducible refine (in_any _ _ _ _).mono ?_
      rintro e w' ⟨rfl, rfl⟩
      rw [HXI.out]
      go_wp2
      go_ret
      exact ⟨ret_int HO2.out.symm, HB1.out⟩
  · have HO2 : Hid (paidI zs l x = -1) := by unfold Hid; rw [HO.out, hp]; rfl
    rw [hp] at T
    clear hp
    generalize tx l = S at *
    go_enter Try.func15, Try.ntmps15
    go_wp2_with fail
    with_reducible refine T.out.mono ?_
    rintro e w1 ⟨rfl, b1⟩
    have HB1 := Lib.hid b1
    clear b1
    go_wp2
    go_ret
    exact ⟨ret_int HO2.out.symm, HB1.out⟩
end Go.Proofs.Ytcgpfdknadijlaa

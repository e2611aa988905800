/- What is paid, at the specification. -/
import Derived.Test.YtcgpfdknadijlaaCoU
import Derived.Test.YtcgpfdknadijlaaCoK
namespace Go.Proofs.Ytcgpfdknadijlaa
open Go.RowKit

/-- A way of two numbers or more, taken apart. -/
theorem pw_open {f n m : Nat} {l r' : List UInt8} {t : Wy} (h : pw f n l = some (t, r', m)) (h2 : 2 ≤ t.size) :
    ∃ f' c r b o g r1 r2, f = f' + 1 ∧ l = c :: r ∧ t = .node g b o ∧ pw f' n r = some (b, r1, g) ∧ hd r1 = 48 + g ∧ g ≤ 9 ∧ pw f' (g + 1) r1.tail = some (o, r2, m) := by
  cases f with
  | zero => cases l <;> cases h
  | succ f =>
    cases l with
    | nil => cases h
    | cons c r =>
      simp only [pw] at h
      split at h
      · injection h with h; injection h with h1 h3
        subst h1
        simp [Wy.size] at h2
      · split at h
        · split at h
          · cases h
          · rename_i b r1 g hb
            split at h
            · rename_i hg
              split at h
              · cases h
              · rename_i o r2 m2 ho
                split at h
                · injection h with h; injection h with h1 h3; injection h3 with h3 h4
                  subst h1 h4
                  exact ⟨f, c, r, b, o, g, r1, r2, rfl, rfl, rfl, hb, hg.1, hg.2, ho⟩
                · cases h
            · cases h
        · cases h

theorem paid_small {zs : List Int} {x : Nat} {t : Wy} (h : t.size ≤ 1) : t.paid zs x = 0 := by
  cases t with
  | leaf => rfl
  | node g b o =>
    simp only [Wy.size] at h
    simp only [Wy.paid]
    rw [if_pos (by omega)]

set_option maxHeartbeats 12800000 in
set_option maxRecDepth 100000 in
theorem specPaidFor_any (v : Value) (zs : List Int) (l : List UInt8) (x : Int) (w : World) (h : Rd w v zs) (hl : l.length ≤ 60) (hx : -9223372036854775808 ≤ x ∧ x ≤ 9223372036854775807) :
    Calls Try.prog 17 #[v, .string (tx l), .int .i64 x] w fun e w' => e = .returned (.int .i64 (paidI zs l x)) ∧ ∃ n, w' = w.drewN n := by
  have T := Lib.hid (specNeedsOf_any v zs l w h hl)
  have HR := Lib.hid h
  have HO : Hid (paidI zs l x = if priceB zs && inB 0 ((zs.length : Int) - 1) x then (match okW zs.length l with | some t => t.paid zs x.toNat | none => -1) else -1) := rfl
  obtain ⟨a, c, rfl, l1, m1, -⟩ := h
  by_cases hneg : needI zs l < 0
  · have HO2 : Hid (paidI zs l x = -1) := by
      unfold Hid
      rw [HO.out]
      unfold needI at hneg
      split
      · rename_i hc
        rw [Bool.and_eq_true] at hc
        rw [if_pos hc.1] at hneg
        cases ho : okW zs.length l with
        | none => rfl
        | some t =>
          rw [ho] at hneg
          dsimp only at hneg
          have := (cost_nonneg (priceB_yes hc.1).2 t).1
          omega
      · rfl
    have q1 : decide (needI zs l < 0) = true := by simpa using hneg
    generalize needI zs l = N at *
    generalize tx l = S at *
    go_enter Try.func17, Try.ntmps17
    go_wp2_with fail
    with_reducible refine T.out.mono ?_
    rintro e w1 ⟨rfl, n, rfl⟩
    go_wp2
    go_ret
    exact ⟨ret_int HO2.out.symm, _, rfl⟩
  · have q1 : decide (needI zs l < 0) = false := by simpa using hneg
    have hpr : priceB zs = true ∧ ∃ t, okW zs.length l = some t := by
      unfold needI at hneg
      split at hneg
      · rename_i hp
        refine ⟨hp, ?_⟩
        cases ho : okW zs.length l with
        | none => rw [ho] at hneg; dsimp only at hneg; omega
        | some t => exact ⟨t, rfl⟩
      · omega
    obtain ⟨hp, t, ht⟩ := hpr
    obtain ⟨h9, hz⟩ := priceB_yes hp
    have HN := Lib.hid (show 0 ≤ needI zs l by omega)
    rcases Bool.eq_false_or_eq_true (inB 0 ((zs.length : Int) - 1) x) with hxb | hxb
    · obtain ⟨hx0, hx1⟩ := inB_in hxb
      obtain ⟨X, rfl⟩ := Int.eq_ofNat_of_zero_le hx0
      have HO2 : Hid (paidI zs l (X : Int) = t.paid zs X) := by unfold Hid; rw [HO.out, hp, hxb, ht]; rfl
      have HXB := Lib.hid hxb
      have hsz : (tx l).size = l.length := tx_size l
      have HSZ := Lib.hid hsz
      have HPW : Hid (∃ f r, l.length - 0 ≤ f ∧ pw f 0 (l.drop 0) = some (t, r, zs.length)) := by
        unfold okW at ht
        cases hq : pw l.length 0 l with
        | none => rw [hq] at ht; cases ht
        | some q =>
          obtain ⟨t', r, m⟩ := q
          rw [hq] at ht
          dsimp only at ht
          split at ht
          · rename_i hc
            injection ht with ht
            rw [List.drop_zero]
            exact ⟨l.length, r, by omega, by rw [hq, ht, hc.2]⟩
          · cases ht
      have HRP := Lib.hid (fun A f j a b W (hA : Rd W A zs) hj hab hb => rp_any zs A l hz (by omega) h9 f j a b W hA hj hab hb)
      have HAT : Hid (∀ (M : Nat) (d : UInt8) (q : List UInt8), l.drop M = d :: q → M < l.length ∧ q = l.drop (M + 1) ∧ ∀ h' : M < (tx l).size, ((tx l)[M].toNat) = d.toNat) := fun M d q hq => by
        obtain ⟨g1, -, g3, g4⟩ := tx_at hq
        rw [tx_size] at g1
        exact ⟨g1, g3, fun h' => by rw [g4]⟩
      have HZ := Lib.hid hz
      have HPL := Lib.hid (fun t => paid_le hz X t)
      have HTOT : Hid (t.paid zs X ≤ 450) := by
        unfold Hid
        have h1 := (paid_le hz X t).2
        have h2 := (cost_nonneg hz t).2
        have h3 := (okW_in ht).2
        omega
      have HTS : Hid (t.size = zs.length) := (okW_in ht).2
      generalize needI zs l = N at *
      clear hz hp hxb ht hsz HO hneg
      generalize tx l = S at *
      go_enter Try.func17, Try.ntmps17
      go_wp2_with fail
      with_reducible refine T.out.mono ?_
      rintro e w1 ⟨rfl, n1, rfl⟩
      go_wp2_with fail
      with_reducible refine (l1In_any _ _ _ _).mono ?_
      rintro e w' ⟨rfl, rfl⟩
      rw [HXB.out]
      go_wp2_with fail
      go_loopg [7, 8, 9, 10] zs.length (fun gh pd at_ fr to wr => ∃ (t' : Wy) (i n' m' f : Nat) (r' : List UInt8) (P : Int) (q : Nat), gh = t'.size ∧ pd = .int .i64 P ∧ at_ = .int .i64 (i : Int) ∧ fr = .int .i64 (n' : Int) ∧ to = .int .i64 (m' : Int) ∧ 0 ≤ P ∧ Hid (P + t'.paid zs X = t.paid zs X) ∧ l.length - i ≤ f ∧ i ≤ 1000 ∧ Hid (pw f n' (l.drop i) = some (t', r', m')) ∧ m' ≤ zs.length ∧ wr = w.drewN q)
      case atStart =>
        obtain ⟨f, r, hf, hpw⟩ := HPW.out
        exact ⟨t, 0, 0, zs.length, f, r, 0, n1, HTS.out.symm, rfl, rfl, rfl, rfl, Int.le_refl _, by unfold Hid; omega, hf, by omega, hpw, Nat.le_refl _, rfl⟩
      case round =>
        obtain ⟨t', i, n', m', f, r', P, q, rfl, rfl, rfl, rfl, rfl, hP, hsum, hf, hi1000, hpw, hm', rfl⟩ := hrel
        have hsize := (pw_in _ _ _ _ _ _ hpw.out).1.size
        by_cases h2 : 2 ≤ t'.size
        · obtain ⟨f', c0, r, b, o, g, r1, r2, rfl, hdrop, rfl, hb, hhd, hg9, ho⟩ := pw_open hpw.out h2
          have hb' := pw_le hb
          have ho' := pw_le ho
          have hinb := (pw_in _ _ _ _ _ _ hb).1
          have hino := (pw_in _ _ _ _ _ _ ho).1
          obtain ⟨hi1, hrd, -⟩ := HAT.out i c0 r hdrop
          rw [hrd] at hb
          have hr1 := pw_drop hb
          have hr1l := (pw_in _ _ _ _ _ _ hb).2
          obtain ⟨d, q1', hr1e, hdh⟩ := hd_pos (l := r1) (by omega)
          obtain ⟨M, hM⟩ : ∃ M, M = l.length - r1.length := ⟨_, rfl⟩
          rw [← hM] at hr1
          obtain ⟨hM1, hq1, hMd⟩ := HAT.out M d q1' (by rw [← hr1]; exact hr1e)
          have hrl : (l.drop (i + 1)).length = l.length - (i + 1) := by simp
          have e1 : decide ((1 : Int) < (m' : Int) - (n' : Int)) = true := by simp; omega
          have e1' : (1 : Int) < (m' : Int) - (n' : Int) := by omega
          have hpd : (Wy.node g b o).paid zs X = if b.size + o.size = 0 then 0 else zs.getD g 0 + (if X < g then b.paid zs X else if g < X then o.paid zs X else 0) := rfl
          have hsz2 : (Wy.node g b o).size = 1 + b.size + o.size := rfl
          rw [if_neg (by omega)] at hpd
          obtain ⟨aA, cA, eA, -, -, rA⟩ := HR.out
          injection eA with eA1 eA2 eA3
          subst eA1 eA3
          obtain ⟨ga, oa, zz, eB, hga, x1, HZ1⟩ := rd_at rA g (by omega)
          subst eB
          have hz1 : 0 ≤ zz ∧ zz ≤ 50 := by
            rw [HZ1.out]; exact HZ.out _ (by simp [List.getD, List.getElem?_eq_getElem (show g < zs.length by omega)])
          rw [← HZ1.out] at hpd
          have hPb : P ≤ 450 := by
            have h3 := hsum.out
            have h4 := (HPL.out (Wy.node g b o)).1
            have := HTOT.out
            omega
          have hg1 : (g : Int) < zs.length := by omega
          have HPD := Lib.hid hpd
          have HB := Lib.hid hb
          have HOO := Lib.hid ho
          have HR1E := Lib.hid hr1e
          have HQ1 := Lib.hid hq1
          have HB2 := Lib.hid hb
          rw [hr1e] at HB HOO
          rw [List.tail_cons] at HOO
          have HOO2 : Hid (pw f' (g + 1) (l.drop (M + 1)) = some (o, r2, m')) := by unfold Hid; rw [← hq1]; exact HOO.out
          have HM := Lib.hid hM
          have hlen1 : r1.length = q1'.length + 1 := by rw [hr1e]; rfl
          have hgM : g < m' := by omega
          have hwd := wrap_dig g hg9
          obtain ⟨D, hD⟩ : ∃ D, D = d.toNat := ⟨_, rfl⟩
          have hMd2 : ∀ h' : M < S.size, (S[M].toNat) = D := fun h' => by rw [hMd h', hD]
          have e9 : ((D : Int) != 48 + (g : Int)) = false := by rw [hD, hdh, hhd]; simp
          have hMS : M < S.size := by rw [HSZ.out]; exact hM1
          have m0 : decide ((M : Int) < 0) = false := by simp
          have m2 : decide ((S.size : Int) ≤ (M : Int)) = false := by simp; omega
          have m2' : decide (S.size ≤ M) = false := by simp; omega
          have hM1000 : M < 1000 := by omega
          have hb6 : l.length - (i + 1) ≤ f' := by omega
          have HS2 := Lib.hid hsz2
          have hmg : g + 1 ≤ m' := by omega
          clear rA hr1e hq1 hpd hMd hb ho hpw hdrop hrd hr1 HZ1 hhd hdh h2 hsize hsz2 hM hD
          go_wp2_with fail
          go_loopg [7, 8, 9, 10, 11] (m' - n') (fun g2 s7 s8 s9 s10 kk wr2 => ∃ (k q2 : Nat), g2 = m' - k ∧ s7 = .int .i64 P ∧ s8 = .int .i64 (i : Int) ∧ s9 = .int .i64 (n' : Int) ∧ s10 = .int .i64 (m' : Int) ∧ n' ≤ k ∧ k ≤ g ∧ kk = .int .i64 (k : Int) ∧ wr2 = w.drewN q2)
          case atStart => exact ⟨n', q, rfl, rfl, rfl, rfl, rfl, Nat.le_refl _, hb', rfl, rfl⟩
          case round =>
            obtain ⟨k, q2, rfl, rfl, rfl, rfl, rfl, hk1, hk2, rfl, rfl⟩ := hrel
            have TR := Lib.hid (HRP.out _ f' (i + 1) n' k (w.drewN q2) (HR.out.drewN q2) hb6 hk1 (by omega))
            rw [show ((i + 1 : Nat) : Int) = (i : Int) + 1 by omega] at TR
            go_wp2_with fail
            with_reducible refine TR.out.mono ?_
            rintro e w5 ⟨ca, mid, rfl, hrp, n5, rfl⟩
            rw [World.drewN_drewN]
            rw [HB.out] at hrp
            dsimp only at hrp
            by_cases hgk : g = k
            · subst hgk
              rw [if_pos rfl] at hrp
              obtain ⟨-, hmid0⟩ := hrp
              have hmid : mid = (M : Int) := by
                rw [hmid0, HM.out, HR1E.out]
              clear hmid0
              subst hmid
              by_cases hgX : g = X
              · subst hgX
                have e3 : ((g : Int) == (g : Int)) = true := by simp
                have HF : Hid (P + zz = t.paid zs g) := by
                  unfold Hid; have h3 := hsum.out; rw [HPD.out, if_neg (by omega), if_neg (by omega)] at h3; omega
                go_wp2
                go_ret
                exact ⟨ret_int (by rw [HO2.out]; exact HF.out), _, rfl⟩
              · have e3 : ((g : Int) == (X : Int)) = false := by rw [beq_eq_false_iff_ne]; omega
                by_cases hlt : X < g
                · have e4 : decide ((X : Int) < (g : Int)) = true := by simp; omega
                  have e4' : decide (X < g) = true := by simp; omega
                  have HNW : Hid ((P + zz) + b.paid zs X = t.paid zs X) := by
                    unfold Hid; have h3 := hsum.out; rw [HPD.out, if_pos hlt] at h3; omega
                  go_wp2
                  go_roundg b.size
                  case measure => have := HS2.out; omega
                  case rel => exact ⟨b, i + 1, n', g, f', r1, P + zz, _, rfl, by go_num, by go_num, rfl, rfl, by omega, HNW, hb6, by omega, HB2.out, by omega, rfl⟩
                · have e4 : decide ((X : Int) < (g : Int)) = false := by simp; omega
                  have e4' : decide (X < g) = false := by simp; omega
                  have HNW : Hid ((P + zz) + o.paid zs X = t.paid zs X) := by
                    unfold Hid; have h3 := hsum.out; rw [HPD.out, if_neg hlt, if_pos (by omega)] at h3; omega
                  go_wp2
                  go_roundg o.size
                  case measure => have := HS2.out; omega
                  case rel => exact ⟨o, M + 1, g + 1, m', f', r2, P + zz, _, rfl, by go_num, by go_num, by go_num, rfl, by omega, HNW, by have := HM.out; omega, by omega, HOO2.out, by omega, rfl⟩
            · rw [if_neg hgk] at hrp
              subst hrp
              go_wp2
              go_roundg (m' - (k + 1))
              case measure => omega
              case rel => exact ⟨k + 1, _, rfl, rfl, rfl, rfl, rfl, by omega, by omega, by go_num, rfl⟩
        · have HP : Hid (P = t.paid zs X) := by
            unfold Hid
            have := hsum.out
            rw [paid_small (by omega)] at this
            omega
          have e1 : decide ((1 : Int) < (m' : Int) - (n' : Int)) = false := by simp; omega
          clear hpw
          go_wp2
          go_ret
          exact ⟨ret_int (by rw [HO2.out, HP.out]), _, rfl⟩
    · have HO2 : Hid (paidI zs l x = -1) := by unfold Hid; rw [HO.out, hp, hxb]; rfl
      have HXB := Lib.hid hxb
      generalize needI zs l = N at *
      clear hxb hp ht hneg
      generalize tx l = S at *
      go_enter Try.func17, Try.ntmps17
      go_wp2_with fail
      with_reducible refine T.out.mono ?_
      rintro e w1 ⟨rfl, n, rfl⟩
      go_wp2_with fail
      with_reducible refine (l1In_any _ _ _ _).mono ?_
      rintro e w' ⟨rfl, rfl⟩
      rw [HXB.out]
      go_wp2
      go_ret
      exact ⟨ret_int HO2.out.symm, _, rfl⟩
end Go.Proofs.Ytcgpfdknadijlaa

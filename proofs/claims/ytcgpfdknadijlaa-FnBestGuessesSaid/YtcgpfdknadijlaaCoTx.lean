/- The text of the best way, at the specification. -/
import Derived.Test.YtcgpfdknadijlaaCoTb
import Derived.Test.YtcgpfdknadijlaaCoY
namespace Go.Proofs.Ytcgpfdknadijlaa
open Go.RowKit

set_option maxRecDepth 100000 in
theorem digit_any (n : Nat) (hn : n < 10) (w : World) :
    Calls Try.prog 37 #[.int .i64 (n : Int)] w fun e w' => e = .returned (.string (tx [UInt8.ofNat (48 + n)])) ∧ Below w.heap.size w w' := by
  have hcv := one_text
  have hb : Below w.heap.size w (w.alloc (.cells #[.int .u8 (48 + (n : Int))] 5)) := (Below.refl _ _).alloc (Nat.le_refl _) _
  have HB := Lib.hid hb
  clear hb
  go_enter Try.func37, Try.ntmps37
  go_wp2
  go_ret
  exact ⟨rfl, HB.out⟩

set_option maxHeartbeats 6400000 in
set_option maxRecDepth 100000 in
theorem l3Text_any (lo g c : Nat) (zs : List Int) (rb : Nat → Nat) (F : Int → Int → Int) (hz : ∀ z ∈ zs, 0 ≤ z ∧ z ≤ 50) (hl : zs.length ≤ 9) (hF : ∀ x y : Nat, x + 2 ≤ y → y ≤ zs.length → F x y = fstB zs x y) : ∀ (d f t : Nat) (w : World), t - f ≤ d → f ≤ t → t ≤ zs.length → Tb w lo g (zs.length + 1) rb F →
    Calls Try.prog 24 #[.slice (some ⟨g, 0, none⟩) (zs.length + 1) c, .int .i64 f, .int .i64 t] w fun e w' => e = .returned (.string (tx (txt (bestW zs f t)))) ∧ Below w.heap.size w w' := by
  intro d
  induction d with
  | zero =>
    intro f t w hd hft htl hT
    obtain rfl : t = f := by omega
    rw [bestW_leaf (Nat.le_refl _)]
    clear hT
    go_enter Try.func24, Try.ntmps24
    go_wp2
    go_ret
    exact ⟨rfl, Below.refl _ _⟩
  | succ d ih =>
    intro f t w hd hft htl hT
    by_cases hft' : t = f
    · subst hft'
      exact ih t t w (by omega) (Nat.le_refl _) htl hT
    · have IH := Lib.hid ih
      have hne : ((t : Int) == (f : Int)) = false := by rw [beq_eq_false_iff_ne]; omega
      have hg := fstB_in hz (show f < t by omega)
      have HT := Lib.hid (bestW_node hz (show f < t by omega))
      have HF1 : f + 2 ≤ t → F f t = fstB zs f t := fun h => hF f t h htl
      have HF2 : t ≤ f + 1 → fstB zs f t = f := fun h => by unfold fstB; rw [if_pos h]
      obtain ⟨k, hge⟩ : ∃ k, fstB zs f t = k := ⟨_, rfl⟩
      rw [hge] at hg HT HF1 HF2
      have n1 := txt_length (bestW zs f k)
      have n2 := txt_length (bestW zs (k + 1) t)
      rw [bestW_size hz hg.1] at n1
      rw [bestW_size hz (by omega)] at n2
      rw [HT.out]
      obtain ⟨l1, hl1⟩ : ∃ l1, txt (bestW zs f k) = l1 := ⟨_, rfl⟩
      obtain ⟨l2, hl2⟩ : ∃ l2, txt (bestW zs (k + 1) t) = l2 := ⟨_, rfl⟩
      have T1 := Lib.hid (fun W hW => IH.out f k W (by omega) hg.1 (by omega) hW)
      have T2 := Lib.hid (fun W hW => IH.out (k + 1) t W (by omega) (by omega) htl hW)
      have T3 := Lib.hid (digit_any k (by omega))
      rw [hl1] at T1
      rw [hl2, show ((k + 1 : Nat) : Int) = (k : Int) + 1 by omega] at T2
      have HEQ : Hid ((⟨#[40]⟩ : ByteArray) ++ tx l1 ++ tx [UInt8.ofNat (48 + k)] ++ tx l2 ++ ⟨#[41]⟩ = tx (txt (.node k (bestW zs f k) (bestW zs (k + 1) t)))) := by
        show tx [40] ++ tx l1 ++ tx [UInt8.ofNat (48 + k)] ++ tx l2 ++ tx [41] = _
        rw [tx_add, tx_add, tx_add, tx_add]
        simp only [txt, hl1, hl2]
        exact congrArg tx (by simp only [List.append_assoc, List.cons_append, List.nil_append])
      have z1 := tx_size l1
      have z2 := tx_size l2
      have z3 := tx_size [UInt8.ofNat (48 + k)]
      rw [hl1] at n1
      rw [hl2] at n2
      obtain ⟨S1, hS1⟩ : ∃ S, tx l1 = S := ⟨_, rfl⟩
      obtain ⟨S2, hS2⟩ : ∃ S, tx l2 = S := ⟨_, rfl⟩
      obtain ⟨S3, hS3⟩ : ∃ S, tx [UInt8.ofNat (48 + k)] = S := ⟨_, rfl⟩
      rw [hS1] at z1 T1 HEQ
      rw [hS2] at z2 T2 HEQ
      rw [hS3] at z3 T3 HEQ
      have z1' : S1.size ≤ 40 := by omega
      have z2' : S2.size ≤ 40 := by omega
      have z3' : S3.size ≤ 1 := by rw [z3]; exact Nat.le_refl _
      have k1 : (9223372036854775807 < 1 + S1.size) = False := eq_false (by omega)
      have k2 : (9223372036854775807 < 1 + S1.size + S3.size) = False := eq_false (by omega)
      have k3 : (9223372036854775807 < 1 + S1.size + S3.size + S2.size) = False := eq_false (by omega)
      have k4 : (9223372036854775807 < 1 + S1.size + S3.size + S2.size + 1) = False := eq_false (by omega)
      have q1 := hT.cell f (by omega)
      have q2 := (hT.num f t (by omega) (by omega)).1
      have HTB := Lib.hid hT
      clear hS1 hS2 hS3 z1 z2 z3 n1 n2 ih IH hF hge HT hl1 hl2 hT
      by_cases h2 : f + 2 ≤ t
      · rw [HF1 h2] at q2
        clear HF1 HF2
        go_enter Try.func24, Try.ntmps24
        go_wp2_with fail
        with_reducible refine (T1.out w HTB.out).mono ?_
        rintro e w5 ⟨rfl, b5⟩
        have HB5 := Lib.hid b5
        have HTB5 := Lib.hid (HTB.out.below b5)
        clear b5 T1 HTB q1 q2
        go_wp2_with fail
        with_reducible refine (T3.out w5).mono ?_
        rintro e w6 ⟨rfl, b6⟩
        have HB6 := Lib.hid (HB5.out.trans (b6.mono HB5.out.size))
        have HTB6 := Lib.hid (HTB5.out.below b6)
        clear b6 T3 HTB5 HB5
        go_wp2_with fail
        with_reducible refine (T2.out w6 HTB6.out).mono ?_
        rintro e w7 ⟨rfl, b7⟩
        have HB7 := Lib.hid (HB6.out.trans (b7.mono HB6.out.size))
        clear b7 T2 HTB6 HB6
        go_wp2
        go_ret
        exact ⟨by rw [← HEQ.out]; rfl, HB7.out⟩
      · obtain rfl := HF2 (by omega)
        clear HF1 HF2
        go_enter Try.func24, Try.ntmps24
        go_wp2_with fail
        with_reducible refine (T1.out w HTB.out).mono ?_
        rintro e w5 ⟨rfl, b5⟩
        have HB5 := Lib.hid b5
        have HTB5 := Lib.hid (HTB.out.below b5)
        clear b5 T1 HTB q1 q2
        go_wp2_with fail
        with_reducible refine (T3.out w5).mono ?_
        rintro e w6 ⟨rfl, b6⟩
        have HB6 := Lib.hid (HB5.out.trans (b6.mono HB5.out.size))
        have HTB6 := Lib.hid (HTB5.out.below b6)
        clear b6 T3 HTB5 HB5
        go_wp2_with fail
        with_reducible refine (T2.out w6 HTB6.out).mono ?_
        rintro e w7 ⟨rfl, b7⟩
        have HB7 := Lib.hid (HB6.out.trans (b7.mono HB6.out.size))
        clear b7 T2 HTB6 HB6
        go_wp2
        go_ret
        exact ⟨by rw [← HEQ.out]; rfl, HB7.out⟩

set_option maxHeartbeats 3200000 in
set_option maxRecDepth 100000 in
theorem specBestGuesses_any (w : World) (v : Value) (zs : List Int) (h : Rd w v zs) :
    Calls Try.prog 8 #[v] w fun e w' => e = .returned (.string (tx (bestT zs))) ∧ Below w.heap.size w w' := by
  obtain ⟨S, hS⟩ : ∃ S, tx (bestT zs) = S := ⟨_, rfl⟩
  rw [hS]
  have HO : Hid (S = tx (if priceB zs then txt (bestW zs 0 zs.length) else [])) := hS.symm
  clear hS
  have T := Lib.hid (specPricesOk_any v zs w h)
  have hbk := h
  obtain ⟨a, c, rfl, l1, m1, -⟩ := hbk
  have HR := Lib.hid h
  clear h
  go_enter Try.func8, Try.ntmps8
  go_wp2_with fail
  with_reducible refine T.out.mono ?_
  rintro e w1 ⟨rfl, hw1⟩
  subst hw1
  clear T
  by_cases hp : priceB zs = true
  · have hS := HO.out
    rw [if_pos hp] at hS
    rw [hp]
    have hl9 := (priceB_yes hp).1
    have HZ := Lib.hid (priceB_yes hp).2
    go_wp2_with fail
    with_reducible refine (l3Table_any w1 _ zs HR.out hp).mono ?_
    rintro e w2 ⟨v5, g, c6, rb, F, rfl, hT, hF, hB⟩
    have T2 := Lib.hid (l3Text_any w1.heap.size g c6 zs rb F HZ.out hl9 hF _ 0 zs.length w2 (Nat.le_refl _) (Nat.zero_le _) (Nat.le_refl _) hT)
    rw [← hS, show ((0 : Nat) : Int) = 0 from rfl] at T2
    have HB2 := Lib.hid hB
    clear hT hF hB HR hS HO
    go_wp2_with fail
    with_reducible refine T2.out.mono ?_
    rintro e w3 ⟨rfl, b3⟩
    have HB3 := Lib.hid (HB2.out.trans (b3.mono HB2.out.size))
    clear b3
    go_wp2
    go_ret
    exact ⟨rfl, HB3.out⟩
  · rw [Bool.not_eq_true] at hp
    have hS := HO.out
    rw [hp] at hS
    simp only [Bool.false_eq_true, if_false] at hS
    subst hS
    rw [hp]
    clear HO
    go_wp2
    go_ret
    exact ⟨rfl, Below.refl _ _⟩
end Go.Proofs.Ytcgpfdknadijlaa

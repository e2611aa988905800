/- What is needed, at the specification. -/
import Derived.Test.YtcgpfdknadijlaaCoT
namespace Go.Proofs.Ytcgpfdknadijlaa
open Go.RowKit

set_option maxRecDepth 100000 in
theorem specPricesOk_any (v : Value) (zs : List Int) (w : World) (h : Rd w v zs) :
    Calls Try.prog 22 #[v] w fun e w' => e = .returned (.bool (priceB zs)) ∧ w' = w := by
  have HO : Hid (priceB zs = (decide (zs.length ≤ 9) && allB 0 50 zs)) := rfl
  obtain ⟨a, c, rfl, l1, m1, r1⟩ := h
  go_enter Try.func22, Try.ntmps22
  go_wp2
  go_loop [3] (fun i => ∃ k : Nat, k ≤ zs.length ∧ i = .int .i64 k ∧ Hid ((zs.take k).all (inB 0 50) = true)) (fun i => zs.length - (intOf i).toNat)
  case atStart => exact ⟨0, Nat.zero_le _, rfl, rfl⟩
  case round =>
    obtain ⟨k, hk, rfl, hall⟩ := hrel
    by_cases hlt : k < zs.length
    · obtain ⟨g, off, z, rfl, hg, x1, HZ⟩ := rd_at r1 k hlt
      clear r1
      go_wp2_with fail
      with_reducible refine (l1In_any _ _ _ _).mono ?_
      rintro e w' ⟨rfl, rfl⟩
      have HMEM : Hid (z ∈ zs) := by unfold Hid; rw [HZ.out]; simp [List.getD, List.getElem?_eq_getElem hlt]
      obtain ⟨b, hb⟩ : ∃ b, b = inB 0 50 z := ⟨_, rfl⟩
      rw [← hb]
      have HB := Lib.hid hb
      clear hb
      cases b with
      | false =>
        have HF : Hid (priceB zs = false) := by
          unfold Hid
          rw [HO.out]
          have : allB 0 50 zs = false := by
            unfold allB; rw [List.all_eq_false]; exact ⟨z, HMEM.out, by rw [← HB.out]; decide⟩
          rw [this, Bool.and_false]
        go_wp2
        go_ret
        exact ⟨ret_bool HF.out.symm, rfl⟩
      | true =>
        have HN : Hid ((zs.take (k + 1)).all (inB 0 50) = true) := by
          unfold Hid
          rw [take_snoc zs k hlt, List.all_append, hall.out, List.all_cons, ← HZ.out, ← HB.out]; rfl
        go_wp2
        go_round
        case rel => exact ⟨k + 1, by omega, by go_num, HN⟩
        case measure => simp [intOf]; omega
    · have hk' : k = zs.length := by omega
      subst hk'
      have HA : Hid (allB 0 50 zs = true) := by unfold Hid allB; have := hall.out; rwa [List.take_length] at this
      go_wp2
      go_ret
      exact ⟨ret_bool (by rw [HO.out, HA.out, Bool.and_true]; simp; omega), rfl⟩

set_option maxRecDepth 100000 in
theorem specNeedsOf_any (v : Value) (zs : List Int) (l : List UInt8) (w : World) (h : Rd w v zs) (hl : l.length ≤ 60) :
    Calls Try.prog 14 #[v, .string (tx l)] w fun e w' => e = .returned (.int .i64 (needI zs l)) ∧ ∃ n, w' = w.drewN n := by
  have T := Lib.hid (specPricesOk_any v zs w h)
  have HR := Lib.hid h
  have HO : Hid (needI zs l = if priceB zs then (match okW zs.length l with | some t => t.cost zs | none => -1) else -1) := rfl
  obtain ⟨a, c, rfl, l1, m1, -⟩ := h
  rcases Bool.eq_false_or_eq_true (priceB zs) with hp | hp
  · obtain ⟨h9, hz⟩ := priceB_yes hp
    have TR := Lib.hid (rp_any zs _ l hz (by omega) h9 l.length 0 0 zs.length w HR.out (Nat.le_refl _) (Nat.zero_le _) (Nat.le_refl _))
    have hsz : (tx l).size = l.length := tx_size l
    rw [show ((0 : Nat) : Int) = 0 from rfl] at TR
    rw [hp] at T HO
    rw [if_pos rfl] at HO
    have HK : Hid (∀ (x z : Int), (match pw l.length 0 (l.drop 0) with
        | some (t, r, m) => if m = zs.length then x = t.cost zs ∧ z = ((l.length - r.length : Nat) : Int) else z = -1
        | none => z = -1) → (z = ((tx l).size : Int) → x = needI zs l) ∧ (z ≠ ((tx l).size : Int) → needI zs l = -1)) := by
      intro x z hxz
      rw [hsz, HO.out]
      rw [List.drop_zero] at hxz
      unfold okW
      cases hq : pw l.length 0 l with
      | none =>
        rw [hq] at hxz
        dsimp only at hxz ⊢
        rw [hxz]
        exact ⟨fun h => by omega, fun _ => rfl⟩
      | some q =>
        obtain ⟨t, r, m⟩ := q
        have hlen := (pw_in _ _ _ _ _ _ hq).2
        rw [hq] at hxz
        dsimp only at hxz ⊢
        split at hxz
        · rename_i hm
          obtain ⟨rfl, rfl⟩ := hxz
          by_cases hr : r = []
          · rw [if_pos ⟨hr, hm⟩]
            refine ⟨fun _ => rfl, fun h => absurd ?_ h⟩
            rw [hr]; simp
          · have : 0 < r.length := List.length_pos_iff.2 hr
            rw [if_neg (fun h => hr h.1)]
            exact ⟨fun h => by omega, fun _ => rfl⟩
        · rename_i hm
          rw [hxz, if_neg (fun h => hm h.2)]
          exact ⟨fun h => by omega, fun _ => rfl⟩
    clear hz hp hsz HO
    generalize tx l = S at *
    go_enter Try.func14, Try.ntmps14
    go_wp2_with fail
    with_reducible refine T.out.mono ?_
    rintro e w1 ⟨rfl, rfl⟩
    go_wp2_with fail
    with_reducible refine TR.out.mono ?_
    rintro e w2 ⟨x, z, rfl, hxz, n, rfl⟩
    obtain ⟨hk1, hk2⟩ := HK.out x z hxz
    have HK1 := Lib.hid hk1
    have HK2 := Lib.hid hk2
    clear hxz hk1 hk2
    by_cases he : z = (S.size : Int)
    · have q1 : (z != (S.size : Int)) = false := by rw [he]; simp
      have HE := Lib.hid (HK1.out he)
      clear he
      go_wp2
      go_ret
      exact ⟨ret_int HE.out, _, rfl⟩
    · have q1 : (z != (S.size : Int)) = true := by rw [bne_iff_ne]; exact he
      have HE := Lib.hid (HK2.out he)
      clear he
      go_wp2
      go_ret
      exact ⟨ret_int HE.out.symm, _, rfl⟩
  · rw [hp] at T HO
    clear hp
    generalize tx l = S at *
    go_enter Try.func14, Try.ntmps14
    go_wp2_with fail
    with_reducible refine T.out.mono ?_
    rintro e w1 ⟨rfl, rfl⟩
    go_wp2
    go_ret
    exact ⟨ret_int HO.out.symm, 0, rfl⟩
end Go.Proofs.Ytcgpfdknadijlaa

/- BoxesOk, of the program and of the reference; slices.Contains at numbers. -/
import Derived.Test.YtdpijiccolbljaaBoxP
import Derived.Test.YtdpijiccolbljaaRange
namespace Go.Proofs.Ytdpijiccolbljaa
open Go.RowKit

set_option maxRecDepth 100000 in
theorem IndexInt_any (v : Value) (zs : List Int) (x : Int) (w : World) (h : Rd w v zs) :
    Calls Try.prog 61 #[v, .int .i64 x] w fun e w' => (∃ k : Int, e = .returned (.int .i64 k) ∧ (0 ≤ k ↔ hasB x zs = true)) ∧ w' = w := by
  obtain ⟨a1, c1, rfl, l1, m1, r1⟩ := h
  go_enter Try.func61, Try.ntmps61
  go_wp2
  go_loop [8] (fun i => ∃ k : Nat, k ≤ zs.length ∧ i = .int .i64 k ∧ Hid (hasB x (zs.take k) = false)) (fun i => zs.length - (intOf i).toNat)
  case atStart => exact ⟨0, Nat.zero_le _, rfl, by simp [hasB, Hid]⟩
  case round =>
    obtain ⟨k, hk, rfl, hno⟩ := hrel
    by_cases hlt : k < zs.length
    · obtain ⟨g1, o1, z, rfl, hg1, x1, HZ⟩ := rd_at r1 k hlt
      clear r1
      have e := take_snoc zs k hlt
      by_cases hx : z = x
      · have hq : (z == x) = true := by simpa using hx
        have hq' : (x == z) = true := by simpa using hx.symm
        have hm : hasB x zs = true := by
          have : z ∈ zs := by rw [HZ.out]; simp [List.getD, List.getElem?_eq_getElem hlt]
          subst hx; simpa [hasB] using this
        have HM := Lib.hid hm
        clear e hx hm
        go_wp2
        go_ret
        exact ⟨⟨k, rfl, fun _ => HM.out, fun _ => by omega⟩, rfl⟩
      · have hq : (z == x) = false := by simpa using hx
        have hq' : (x == z) = false := by simp; exact fun h => hx h.symm
        have hno' : hasB x (zs.take (k + 1)) = false := by rw [e, ← HZ.out]; have := hno.out; simp [hasB] at this ⊢; exact ⟨this, fun h => hx h.symm⟩
        have HN := Lib.hid hno'
        clear e hx hno hno'
        go_wp2
        go_round
        case rel => exact ⟨k + 1, by omega, by go_num, HN⟩
        case measure => simp [intOf]; omega
    · have hk' : k = zs.length := by omega
      subst hk'
      go_wp2
      go_ret
      refine ⟨⟨-1, rfl, fun h => by omega, fun h => ?_⟩, rfl⟩
      have := hno.out
      rw [List.take_length, h] at this
      cases this

set_option maxRecDepth 100000 in
theorem ContainsInt_any (v : Value) (zs : List Int) (x : Int) (w : World) (h : Rd w v zs) :
    Calls Try.prog 48 #[v, .int .i64 x] w fun e w' => e = .returned (.bool (hasB x zs)) ∧ w' = w := by
  go_enter Try.func48, Try.ntmps48
  go_wp2_with fail
  refine (IndexInt_any _ _ _ _ h).mono ?_
  rintro e w' ⟨⟨k, rfl, hk⟩, rfl⟩
  have HK := Lib.hid hk; clear hk
  by_cases h0 : 0 ≤ k
  · go_wp2
    go_ret
    exact ⟨ret_bool (by rw [HK.out.1 h0]), rfl⟩
  · go_wp2
    go_ret
    have h1 : hasB x zs = false := by
      cases hb : hasB x zs
      · rfl
      · exact absurd (HK.out.2 hb) (by omega)
    exact ⟨ret_bool (by rw [h1]; simp; omega), rfl⟩

theorem boxB_len {zs : List Int} (h : inB 1 7 zs.length = false) : boxB zs = false := by
  have := inB_out h
  rw [Bool.eq_false_iff]
  intro hb
  have := boxB_out hb
  omega
theorem boxB_lack {zs : List Int} {k : Nat} (hk : k < zs.length) (h : hasB (k : Int) zs = false) : boxB zs = false := by
  rw [Bool.eq_false_iff]
  intro hb
  have := (boxB_out hb).2.2 k hk
  rw [← hasB_iff, h] at this
  cases this

set_option maxRecDepth 100000 in
theorem implBoxesOk_any (v : Value) (zs : List Int) (w : World) (h : Rd w v zs) :
    Calls Try.prog 19 #[v] w fun e w' => e = .returned (.bool (boxB zs)) ∧ w' = w := by
  have hR := h
  obtain ⟨a1, c1, rfl, l1, m1, -⟩ := h
  go_enter Try.func19, Try.ntmps19
  go_wp2_with fail
  refine (in_any _ _ _ _).mono ?_
  rintro e w' ⟨rfl, rfl⟩
  rcases Bool.eq_false_or_eq_true (inB 1 7 (zs.length : Int)) with hb | hb
  rotate_left
  · rw [hb]
    have HF := Lib.hid (boxB_len hb)
    clear hb
    go_wp2
    go_ret
    exact ⟨ret_bool HF.out.symm, rfl⟩
  rw [hb]
  have hln := inB_in hb
  clear hb
  go_wp2_with fail
  go_loop [10] (fun i => ∃ k : Nat, k ≤ zs.length ∧ i = .int .i64 k ∧ Hid (∀ j : Nat, j < k → (j : Int) ∈ zs)) (fun i => zs.length - (intOf i).toNat)
  case atStart => exact ⟨0, Nat.zero_le _, rfl, fun j hj => absurd hj (by omega)⟩
  case round =>
    obtain ⟨k, hk, rfl, hin⟩ := hrel
    by_cases hlt : k < zs.length
    · go_wp2_with fail
      refine (ContainsInt_any _ zs _ _ hR).mono ?_
      rintro e w' ⟨rfl, rfl⟩
      rcases Bool.eq_false_or_eq_true (hasB (k : Int) zs) with hb | hb
      · rw [hb]
        have HN : Hid (∀ j : Nat, j < k + 1 → (j : Int) ∈ zs) := fun j hj => by
          by_cases e : j = k
          · subst e; exact hasB_iff.1 hb
          · exact hin.out j (by omega)
        clear hb
        go_wp2
        go_round
        case rel => exact ⟨k + 1, by omega, by go_num, HN⟩
        case measure => simp [intOf]; omega
      · rw [hb]
        have HF := Lib.hid (boxB_lack hlt hb)
        clear hb
        go_wp2
        go_ret
        exact ⟨ret_bool HF.out.symm, rfl⟩
    · have hk' : k = zs.length := by omega
      subst hk'
      have HF := Lib.hid (boxB_in (by omega) (by omega) hin.out)
      go_wp2
      go_ret
      exact ⟨ret_bool HF.out.symm, rfl⟩
end Go.Proofs.Ytdpijiccolbljaa

/- slices.Min and slices.Max at numbers. -/
import Derived.Test.YtdpijiccolbljaaSort
namespace Go.Proofs.Ytdpijiccolbljaa
open Go.RowKit

def maxN : List Nat → Nat → Nat
  | [], d => d
  | a :: l, d => cond (Nat.ble a d) (maxN l d) (maxN l a)
theorem minN_snoc (a : Nat) : ∀ (l : List Nat) (d : Nat), minN (l ++ [a]) d = if minN l d ≤ a then minN l d else a
  | [], d => by
    show cond (Nat.ble d a) d a = _
    by_cases h : d ≤ a
    · rw [Nat.ble_eq_true_of_le h]; simp [minN, h]
    · have e : Nat.ble d a = false := by rw [Bool.eq_false_iff]; exact fun h2 => h (Nat.le_of_ble_eq_true h2)
      rw [e]; simp [minN, h]
  | b :: l, d => by
    show cond (Nat.ble d b) (minN (l ++ [a]) d) (minN (l ++ [a]) b) = _
    cases h : Nat.ble d b <;> simp only [cond_true, cond_false] <;> rw [minN_snoc a l] <;> simp [minN, h]
theorem maxN_snoc (a : Nat) : ∀ (l : List Nat) (d : Nat), maxN (l ++ [a]) d = if a ≤ maxN l d then maxN l d else a
  | [], d => by
    show cond (Nat.ble a d) d a = _
    by_cases h : a ≤ d
    · rw [Nat.ble_eq_true_of_le h]; simp [maxN, h]
    · have e : Nat.ble a d = false := by rw [Bool.eq_false_iff]; exact fun h2 => h (Nat.le_of_ble_eq_true h2)
      rw [e]; simp [maxN, h]
  | b :: l, d => by
    show cond (Nat.ble b d) (maxN (l ++ [a]) d) (maxN (l ++ [a]) b) = _
    cases h : Nat.ble b d <;> simp only [cond_true, cond_false] <;> rw [maxN_snoc a l] <;> simp [maxN, h]
theorem minN_first (us : List Nat) (h : 0 < us.length) : minN (us.take 1) (nx us 0) = nx us 0 := by
  rw [takeN_snoc us 0 h, List.take_zero, List.nil_append]
  show cond (Nat.ble (nx us 0) (nx us 0)) _ _ = _
  cases Nat.ble (nx us 0) (nx us 0) <;> rfl
theorem maxN_first (us : List Nat) (h : 0 < us.length) : maxN (us.take 1) (nx us 0) = nx us 0 := by
  rw [takeN_snoc us 0 h, List.take_zero, List.nil_append]
  show cond (Nat.ble (nx us 0) (nx us 0)) _ _ = _
  cases Nat.ble (nx us 0) (nx us 0) <;> rfl

set_option maxRecDepth 100000 in
theorem min_any (v : Value) (us : List Nat) (w : World) (h : Rd w v (iz us)) (h0 : 0 < us.length) :
    Calls Try.prog 52 #[v] w fun e w' => e = .returned (.int .i64 ((minN us (nx us 0) : Nat) : Int)) ∧ w' = w := by
  obtain ⟨a, cap, rfl, l1, m1⟩ := rdN_out h
  have HH := Lib.hid h
  obtain ⟨g, off, rfl, hg, x0⟩ := rdN_at h 0 h0
  rw [Nat.add_zero] at x0
  have HF := Lib.hid (minN_first us h0)
  clear h
  go_enter Try.func52, Try.ntmps52
  go_wp2
  go_loop [3, 4] (fun m i => ∃ k : Nat, 1 ≤ k ∧ k ≤ us.length ∧ i = .int .i64 k ∧ m = .int .i64 ((minN (us.take k) (nx us 0) : Nat) : Int)) (fun _ i => us.length - (intOf i).toNat)
  case atStart => exact ⟨1, Nat.le_refl _, h0, rfl, by rw [HF.out]⟩
  case round =>
    obtain ⟨k, hk1, hk, rfl, rfl⟩ := hrel
    by_cases hlt : k < us.length
    · obtain ⟨g', off', e1, hg', x1⟩ := rdN_at HH.out k hlt
      injection e1 with e1
      injection e1 with e1 e2
      subst e1 e2
      have HS : Hid (minN (us.take (k + 1)) (nx us 0) = if minN (us.take k) (nx us 0) ≤ nx us k then minN (us.take k) (nx us 0) else nx us k) := by unfold Hid; rw [takeN_snoc us k hlt, minN_snoc]
      generalize minN (us.take k) (nx us 0) = m at *
      generalize nx us k = z at *
      go_wp2
      go_round
      case rel =>
        refine ⟨k + 1, by omega, by omega, by go_num, ?_⟩
        rw [HS.out]
        congr 1
        split <;> split <;> omega
      case measure => simp [intOf]; omega
    · have hk' : k = us.length := by omega
      subst hk'
      rw [List.take_length]
      go_wp2
      go_ret
      exact ⟨rfl, rfl⟩

set_option maxRecDepth 100000 in
theorem max_any (v : Value) (us : List Nat) (w : World) (h : Rd w v (iz us)) (h0 : 0 < us.length) :
    Calls Try.prog 62 #[v] w fun e w' => e = .returned (.int .i64 ((maxN us (nx us 0) : Nat) : Int)) ∧ w' = w := by
  obtain ⟨a, cap, rfl, l1, m1⟩ := rdN_out h
  have HH := Lib.hid h
  obtain ⟨g, off, rfl, hg, x0⟩ := rdN_at h 0 h0
  rw [Nat.add_zero] at x0
  have HF := Lib.hid (maxN_first us h0)
  clear h
  go_enter Try.func62, Try.ntmps62
  go_wp2
  go_loop [3, 4] (fun m i => ∃ k : Nat, 1 ≤ k ∧ k ≤ us.length ∧ i = .int .i64 k ∧ m = .int .i64 ((maxN (us.take k) (nx us 0) : Nat) : Int)) (fun _ i => us.length - (intOf i).toNat)
  case atStart => exact ⟨1, Nat.le_refl _, h0, rfl, by rw [HF.out]⟩
  case round =>
    obtain ⟨k, hk1, hk, rfl, rfl⟩ := hrel
    by_cases hlt : k < us.length
    · obtain ⟨g', off', e1, hg', x1⟩ := rdN_at HH.out k hlt
      injection e1 with e1
      injection e1 with e1 e2
      subst e1 e2
      have HS : Hid (maxN (us.take (k + 1)) (nx us 0) = if nx us k ≤ maxN (us.take k) (nx us 0) then maxN (us.take k) (nx us 0) else nx us k) := by unfold Hid; rw [takeN_snoc us k hlt, maxN_snoc]
      generalize maxN (us.take k) (nx us 0) = m at *
      generalize nx us k = z at *
      go_wp2
      go_round
      case rel =>
        refine ⟨k + 1, by omega, by omega, by go_num, ?_⟩
        rw [HS.out]
        congr 1
        split <;> split <;> omega
      case measure => simp [intOf]; omega
    · have hk' : k = us.length := by omega
      subst hk'
      rw [List.take_length]
      go_wp2
      go_ret
      exact ⟨rfl, rfl⟩
end Go.Proofs.Ytdpijiccolbljaa

/- The specification's reading of a text. -/
import Derived.Test.YtajelgheccfcoaaSoI
namespace Go.Proofs.Ytajelgheccfcoaa
open Go.RowKit

theorem rd_suffix (p : Nat) : ∀ (n : Nat) (l : List UInt8), (rd p n l).2 <:+ l := by
  intro n
  induction n with
  | zero => intro l; exact List.nil_suffix
  | succ n ih =>
    intro l
    cases l with
    | nil => exact List.nil_suffix
    | cons c r =>
      have h0 : r <:+ c :: r := List.suffix_cons c r
      have h1 := (ih r).trans h0
      have h2 := (ih (rd p n r).2.tail).trans ((List.tail_suffix _).trans h1)
      simp only [rd]
      split
      · exact h0
      · split
        · exact h1
        · split
          · exact (List.tail_suffix r).trans h0
          · split
            · split
              · exact (List.tail_suffix _).trans h2
              · exact h2
            · exact h0

/-- What is read at place i. -/
def ReadPost (p n k i : Nat) (l : List UInt8) (W : World) (e : Ending) (w' : World) : Prop :=
  ∃ b z, e = .returned (.tuple #[.bool b, .int .i64 z]) ∧ (match (rd p n (l.drop i)).1 with
    | some a => b = a.val k ∧ z = ((l.length - (rd p n (l.drop i)).2.length : Nat) : Int)
    | none => z = -1) ∧ ∃ m, w' = W.drewN m

set_option maxRecDepth 100000 in
theorem read_end (p n k i : Nat) (l : List UInt8) (W : World) (hi : l.length ≤ i) :
    Calls Try.prog 58 #[.int .i64 (p : Int), .string (tx l), .int .i64 (i : Int), .int .i64 (k : Int)] W (ReadPost p n k i l W) := by
  have hsz : (tx l).size = l.length := tx_size l
  have hd0 : l.drop i = [] := List.drop_eq_nil_iff.2 hi
  have HR : Hid ((rd p n (l.drop i)).1 = none) := by
    unfold Hid; rw [hd0]; cases n <;> rfl
  have hg : decide (((tx l).size : Int) ≤ (i : Int)) = true := by rw [hsz]; simp; omega
  have hg' : decide ((tx l).size ≤ i) = true := by rw [hsz]; simp; omega
  clear hsz hd0 hi
  generalize tx l = S at *
  go_enter Try.func58, Try.ntmps58
  go_wp2
  refine bodyPost_ret (v := .tuple #[.bool false, .int .i64 (-1)]) (by simp [results, Try.results58, go_sem]) rfl ?_
  exact ⟨_, _, rfl, by rw [HR.out], 0, rfl⟩

theorem tx_at {l : List UInt8} {i : Nat} {c : UInt8} {r : List UInt8} (h : l.drop i = c :: r) : i < (tx l).size ∧ (tx l)[i]? = some c ∧ r = l.drop (i + 1) ∧ (∀ h' : i < (tx l).size, (tx l)[i] = c) := by
  have hi : i < l.length := by
    by_cases hi : i < l.length
    · exact hi
    · rw [List.drop_eq_nil_iff.2 (by omega)] at h; cases h
  have h1 : i < (tx l).size := by rw [tx_size]; exact hi
  rw [List.drop_eq_getElem_cons hi] at h
  injection h with h2 h3
  have h4 : ∀ h' : i < (tx l).size, (tx l)[i] = c := fun h' => h2
  exact ⟨h1, by rw [getElem?_pos (tx l) i h1, h4], h3.symm, h4⟩

set_option maxRecDepth 100000 in
theorem read_kn (p n k i : Nat) (l : List UInt8) (c : UInt8) (r : List UInt8) (W : World) (hp : p ≤ 5) (hk : k < 32) (hl : l.length < 4611686018427387904) (hd : l.drop i = c :: r) (hc : 48 ≤ c.toNat ∧ c.toNat ≤ 52) :
    Calls Try.prog 58 #[.int .i64 (p : Int), .string (tx l), .int .i64 (i : Int), .int .i64 (k : Int)] W (ReadPost p (n + 1) k i l W) := by
  obtain ⟨h1, h2, h3, h4⟩ := tx_at hd
  have hi : i < l.length := by rw [tx_size] at h1; exact h1
  have hz : Hid (l.length - r.length = i + 1) := by unfold Hid; rw [h3]; simp; omega
  obtain ⟨J, hJ⟩ : ∃ J : Nat, c.toNat = 48 + J ∧ J ≤ 4 := ⟨c.toNat - 48, by omega, by omega⟩
  have HR : Hid (rd p (n + 1) (l.drop i) = (if J < p then some (.kn J) else none, r)) := by
    unfold Hid
    rw [hd]
    simp only [rd]
    by_cases hJp : J < p
    · rw [if_pos (by omega), if_pos hJp, show c.toNat - 48 = J by omega]
    · rw [if_neg (by omega), if_neg hJp, if_neg (by omega), if_neg (by omega), if_neg (by omega)]
  have hg : decide (((tx l).size : Int) ≤ (i : Int)) = false := by simp; omega
  have hg' : decide ((tx l).size ≤ i) = false := by simp; omega
  have hc' : Hid (∀ h' : i < (tx l).size, ((tx l)[i].toNat) = 48 + J) := fun h' => by rw [h4]; exact hJ.1
  have hJ4 := hJ.2
  clear hc hJ hd h3 h4 
  have hi62 : i + 1 < 4611686018427387905 := by omega
  clear hi hl
  by_cases hJp : J < p
  · rw [if_pos hJp] at HR
    have d1 : decide ((p : Int) ≤ (J : Int)) = false := by simp; omega
    have d2 : decide (p ≤ J) = false := by simp; omega
    generalize tx l = S at *
    obtain rfl | rfl | rfl | rfl | rfl : J = 0 ∨ J = 1 ∨ J = 2 ∨ J = 3 ∨ J = 4 := by omega
    · have hcc := hc'.out
      clear hJ4
      go_enter Try.func58, Try.ntmps58
      go_wp2
      refine bodyPost_ret (v := .tuple #[.bool ((k : Int) % 2 == 1), .int .i64 ((i : Int) + 1)]) (by simp [results, Try.results58, go_sem]) rfl ?_
      refine ⟨_, _, rfl, ?_, 0, rfl⟩
      rw [HR.out]
      refine ⟨?_, by show (i : Int) + 1 = ((l.length - r.length : Nat) : Int); rw [hz.out]; rfl⟩
      show ((k : Int) % 2 == 1) = (k / 2 ^ 0 % 2 == 1)
      rw [Bool.eq_iff_iff]; simp; omega
    · have hcc := hc'.out
      clear hJ4
      go_enter Try.func58, Try.ntmps58
      go_wp2
      refine bodyPost_ret (v := .tuple #[.bool ((k : Int) / 2 % 2 == 1), .int .i64 ((i : Int) + 1)]) (by simp [results, Try.results58, go_sem]) rfl ?_
      refine ⟨_, _, rfl, ?_, 0, rfl⟩
      rw [HR.out]
      refine ⟨?_, by show (i : Int) + 1 = ((l.length - r.length : Nat) : Int); rw [hz.out]; rfl⟩
      show ((k : Int) / 2 % 2 == 1) = (k / 2 ^ 1 % 2 == 1)
      rw [Bool.eq_iff_iff]; simp; omega
    · have hcc := hc'.out
      clear hJ4
      go_enter Try.func58, Try.ntmps58
      go_wp2
      refine bodyPost_ret (v := .tuple #[.bool ((k : Int) / 4 % 2 == 1), .int .i64 ((i : Int) + 1)]) (by simp [results, Try.results58, go_sem]) rfl ?_
      refine ⟨_, _, rfl, ?_, 0, rfl⟩
      rw [HR.out]
      refine ⟨?_, by show (i : Int) + 1 = ((l.length - r.length : Nat) : Int); rw [hz.out]; rfl⟩
      show ((k : Int) / 4 % 2 == 1) = (k / 2 ^ 2 % 2 == 1)
      rw [Bool.eq_iff_iff]; simp; omega
    · have hcc := hc'.out
      clear hJ4
      go_enter Try.func58, Try.ntmps58
      go_wp2
      refine bodyPost_ret (v := .tuple #[.bool ((k : Int) / 8 % 2 == 1), .int .i64 ((i : Int) + 1)]) (by simp [results, Try.results58, go_sem]) rfl ?_
      refine ⟨_, _, rfl, ?_, 0, rfl⟩
      rw [HR.out]
      refine ⟨?_, by show (i : Int) + 1 = ((l.length - r.length : Nat) : Int); rw [hz.out]; rfl⟩
      show ((k : Int) / 8 % 2 == 1) = (k / 2 ^ 3 % 2 == 1)
      rw [Bool.eq_iff_iff]; simp; omega
    · have hcc := hc'.out
      clear hJ4
      go_enter Try.func58, Try.ntmps58
      go_wp2
      refine bodyPost_ret (v := .tuple #[.bool ((k : Int) / 16 % 2 == 1), .int .i64 ((i : Int) + 1)]) (by simp [results, Try.results58, go_sem]) rfl ?_
      refine ⟨_, _, rfl, ?_, 0, rfl⟩
      rw [HR.out]
      refine ⟨?_, by show (i : Int) + 1 = ((l.length - r.length : Nat) : Int); rw [hz.out]; rfl⟩
      show ((k : Int) / 16 % 2 == 1) = (k / 2 ^ 4 % 2 == 1)
      rw [Bool.eq_iff_iff]; simp; omega
  · rw [if_neg hJp] at HR
    have d1 : decide ((p : Int) ≤ (J : Int)) = true := by simp; omega
    have d2 : decide (p ≤ J) = true := by simp; omega
    generalize tx l = S at *
    obtain rfl | rfl | rfl | rfl | rfl : J = 0 ∨ J = 1 ∨ J = 2 ∨ J = 3 ∨ J = 4 := by omega
    all_goals
      have hcc := hc'.out
      have hp0 : p ≤ 4 := by omega
      clear hJ4
      go_enter Try.func58, Try.ntmps58
      go_wp2
      refine bodyPost_ret (v := .tuple #[.bool false, .int .i64 (-1)]) (by simp [results, Try.results58, go_sem]) rfl ?_
      exact ⟨_, _, rfl, by rw [HR.out], 0, rfl⟩
end Go.Proofs.Ytajelgheccfcoaa

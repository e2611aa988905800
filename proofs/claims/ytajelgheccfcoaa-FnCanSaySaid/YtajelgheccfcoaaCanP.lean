/- Whether somebody can say that they are a knight, or none, in plain words. -/
import Derived.Test.YtajelgheccfcoaaWaysQ
import Derived.Test.YtajelgheccfcoaaCan
namespace Go.Proofs.Ytajelgheccfcoaa
open Go.RowKit

def ownT (b : Nat) : List UInt8 := [48 + UInt8.ofNat b]
theorem own_said {p b : Nat} (hp : 1 ≤ p ∧ p ≤ 5) (hb : b < p) : saidOf p (ownT b) = some (.kn b) ∧ saidOf p (33 :: ownT b) = some (.no (.kn b)) := by
  obtain rfl | rfl | rfl | rfl | rfl : p = 1 ∨ p = 2 ∨ p = 3 ∨ p = 4 ∨ p = 5 := by omega
  all_goals
    obtain rfl | rfl | rfl | rfl | rfl : b = 0 ∨ b = 1 ∨ b = 2 ∨ b = 3 ∨ b = 4 := by omega
    all_goals first | exact ⟨rfl, rfl⟩ | omega
theorem bang_own (b : Nat) : (⟨#[33]⟩ : ByteArray) ++ tx (ownT b) = tx (33 :: ownT b) := by
  apply ByteArray.ext
  simp [tx, ownT]
theorem own_so {p b k : Nat} (hp : 1 ≤ p ∧ p ≤ 5) (hb : b < p) (hk : k < 2 ^ p) : soB p (ownT b) k = bitB k b ∧ soB p (33 :: ownT b) k = !bitB k b := by
  obtain ⟨h1, h2⟩ := own_said hp hb
  rw [soB_val h1 hk, soB_val h2 hk]
  exact ⟨rfl, rfl⟩
theorem own_ok {p b : Nat} (hp : 1 ≤ p ∧ p ≤ 5) (hb : b < p) : okB p ((b : Int), ownT b) = true := by
  unfold okB textB
  rw [(own_said hp hb).1, inB_true (by show (0 : Int) ≤ b; omega) (by show (b : Int) ≤ (p : Int) - 1; omega)]; rfl
theorem wayB_more {p : Int} {ps : List Sy} {q : Sy} {k : Nat} : wayB p (ps ++ [q]) k = (wayB p ps k && (soB p q.2 k == bitB k q.1)) := by
  unfold wayB; rw [List.all_append, List.all_cons, List.all_nil, Bool.and_true]

theorem can_bang {p b : Nat} {ps : List Sy} (hp : 1 ≤ p ∧ p ≤ 5) (hb : b < p) : canI p ps ((b : Int), 33 :: ownT b) = false := by
  unfold canI
  have : waysI (p : Int) (ps ++ [((b : Int), 33 :: ownT b)]) = [] := by
    rw [waysI_N]
    unfold waysN
    split
    · rw [List.map_eq_nil_iff, List.filter_eq_nil_iff]
      intro k hk
      have hk : k < 2 ^ p := List.mem_range.1 hk
      rw [wayB_more]
      show ¬ (wayB p ps k && (soB p (33 :: ownT b) k == bitB k b)) = true
      rw [(own_so hp hb hk).2]
      cases wayB (p : Int) ps k <;> cases bitB k (b : Int) <;> decide
    · rfl
  rw [this]; simp
theorem can_own {p b : Nat} {ps : List Sy} (hp : 1 ≤ p ∧ p ≤ 5) (hb : b < p) (hs : sayB p ps = true) (hl : ps.length < 6) : canI p ps ((b : Int), ownT b) = decide (0 < (waysN p ps).length) := by
  have hs2 : sayB (p : Int) (ps ++ [((b : Int), ownT b)]) = true := by
    obtain ⟨h1, h2, h3⟩ := sayB_yes hs
    unfold sayB
    rw [inB_true h1.1 h1.2, decide_eq_true (by simp; omega), List.all_eq_true.2 fun x hx => ?_]
    · rfl
    · rcases List.mem_append.1 hx with hx | hx
      · exact h3 x hx
      · rw [List.mem_singleton.1 hx]; exact own_ok hp hb
  have hw : waysN (p : Int) (ps ++ [((b : Int), ownT b)]) = waysN p ps := by
    unfold waysN
    rw [if_pos hs, if_pos hs2]
    refine List.filter_congr fun k hk => ?_
    have hk : k < 2 ^ p := List.mem_range.1 hk
    rw [wayB_more]
    show (wayB p ps k && (soB p (ownT b) k == bitB k b)) = wayB p ps k
    rw [(own_so hp hb hk).1]
    cases wayB (p : Int) ps k <;> cases bitB k (b : Int) <;> rfl
  unfold canI
  rw [waysI_N, hw, List.length_map, decide_eq_true hl, Bool.true_and]
end Go.Proofs.Ytajelgheccfcoaa

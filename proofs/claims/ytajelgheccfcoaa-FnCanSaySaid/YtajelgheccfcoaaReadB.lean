/- The specification's reading, whole; its TextOk and SoFor. -/
import Derived.Test.YtajelgheccfcoaaReadA
import Derived.Test.YtajelgheccfcoaaReadN
namespace Go.Proofs.Ytajelgheccfcoaa
open Go.RowKit

theorem read_any (p k : Nat) (l : List UInt8) (hp : p ≤ 5) (hk : k < 2 ^ p) (hl : l.length < 4611686018427387904) : ∀ n, ReadAt p n k l := by
  have hk32 : k < 32 := Nat.lt_of_lt_of_le hk (by calc 2 ^ p ≤ 2 ^ 5 := Nat.pow_le_pow_right (by omega) hp
                                                    _ = 32 := by decide)
  intro n
  induction n with
  | zero => intro i W hn; exact read_end p 0 k i l W (by omega)
  | succ n ih =>
    intro i W hn
    by_cases hi : l.length ≤ i
    · exact read_end p (n + 1) k i l W hi
    · obtain ⟨c, r, hd⟩ : ∃ c r, l.drop i = c :: r := by rw [List.drop_eq_getElem_cons (by omega : i < l.length)]; exact ⟨_, _, rfl⟩
      by_cases h0 : 48 ≤ c.toNat ∧ c.toNat ≤ 52
      · exact read_kn p n k i l c r W hp hk32 hl hd h0
      · by_cases h1 : c.toNat = 33
        · exact read_no p n k i l c r W ih hn hl hd h1
        · by_cases h2 : c.toNat = 35
          · exact read_num p n k i l c r W hp hk hl hd h2
          · by_cases h3 : c.toNat = 40
            · exact read_two p n k i l c r W ih hn hl hd h3
            · exact read_else p n k i l c r W hp hd h0 h1 h2 h3

theorem saidOf_of {p : Nat} {l : List UInt8} (h : 1 ≤ p ∧ p ≤ 5) (h40 : l.length ≤ 40) : saidOf (p : Int) l = if (rd p l.length l).2 = [] then (rd p l.length l).1 else none := by
  unfold saidOf; rw [if_pos (by omega)]; rfl
theorem rest_end {p n : Nat} {l : List UInt8} {a : Say} (h : (rd p n l).1 = some a) : (l.length - (rd p n l).2.length = l.length) ↔ (rd p n l).2 = [] := by
  have hlen := rd_len p n l
  have h0 : l ≠ [] := by rintro rfl; cases n <;> cases h
  have hpos : 0 < l.length := List.length_pos_iff.2 h0
  constructor
  · intro e; exact List.length_eq_zero_iff.1 (by omega)
  · intro e; rw [e]; simp

set_option maxRecDepth 100000 in
theorem specTextOk_any (p : Int) (l : List UInt8) (W : World) (hl : l.length < 4611686018427387904) :
    Calls Try.prog 52 #[.int .i64 p, .string (tx l)] W fun e w' => e = .returned (.bool (textB p l)) ∧ ∃ m, w' = W.drewN m := by
  have hsz : (tx l).size = l.length := tx_size l
  by_cases hin : 1 ≤ p ∧ p ≤ 5
  · by_cases h40 : l.length ≤ 40
    · obtain ⟨q, rfl⟩ := Int.eq_ofNat_of_zero_le (show 0 ≤ p by omega)
      have HI : Hid (inB 1 5 (q : Int) = true) := inB_true hin.1 hin.2
      have hS := saidOf_of (p := q) (l := l) (by omega) h40
      have T : Hid (∀ W, Calls Try.prog 58 #[.int .i64 (q : Int), .string (tx l), .int .i64 0, .int .i64 0] W (ReadPost q l.length 0 0 l W)) := fun W => read_any q 0 l (by omega) (Nat.two_pow_pos _) hl l.length 0 W (by omega)
      have HT : Hid (∀ b z, (match (rd q l.length (l.drop 0)).1 with
          | some a => b = a.val 0 ∧ z = ((l.length - (rd q l.length (l.drop 0)).2.length : Nat) : Int)
          | none => z = -1) → (z == ((tx l).size : Int)) = textB q l) := by
        intro b z hz
        unfold textB
        rw [hS, hsz]
        rw [List.drop_zero] at hz
        cases ho : (rd q l.length l).1 with
        | none =>
          rw [ho] at hz
          rw [hz]
          split <;> simp <;> omega
        | some a =>
          rw [ho] at hz
          have hr := rest_end ho
          by_cases h0 : (rd q l.length l).2 = []
          · rw [if_pos h0, hz.2, hr.2 h0]; simp
          · rw [if_neg h0, hz.2]
            have : ¬ _ := fun e => h0 (hr.1 e)
            simp; omega
      have hg : decide ((40 : Int) < ((tx l).size : Int)) = false := by rw [hsz]; simp; omega
      have hg' : decide (40 < (tx l).size) = false := by rw [hsz]; simp; omega
      clear hin h40 hl hsz hS
      generalize tx l = S at *
      go_enter Try.func52, Try.ntmps52
      go_wp2_with fail
      with_reducible refine (l1In_any _ _ _ _).mono ?_
      rintro e w' ⟨rfl, rfl⟩
      rw [HI.out]
      go_wp2_with fail
      with_reducible refine (T.out _).mono ?_
      rintro e w' ⟨b, z, rfl, hb, m, rfl⟩
      have HB := Lib.hid (HT.out b z hb)
      clear hb
      go_wp2
      go_ret
      exact ⟨ret_bool HB.out, _, rfl⟩
    · have HI : Hid (inB 1 5 p = true) := inB_true hin.1 hin.2
      have HR : Hid (textB p l = false) := by
        unfold Hid textB saidOf; rw [if_neg (by omega)]; rfl
      have hg : decide ((40 : Int) < ((tx l).size : Int)) = true := by rw [hsz]; simp; omega
      have hg' : decide (40 < (tx l).size) = true := by rw [hsz]; simp; omega
      clear hin h40 hl hsz
      generalize tx l = S at *
      go_enter Try.func52, Try.ntmps52
      go_wp2_with fail
      with_reducible refine (l1In_any _ _ _ _).mono ?_
      rintro e w' ⟨rfl, rfl⟩
      rw [HI.out]
      go_wp2
      go_ret
      exact ⟨ret_bool HR.out.symm, 0, rfl⟩
  · have HI : Hid (inB 1 5 p = false) := inB_false hin
    have HR : Hid (textB p l = false) := by
      unfold Hid textB saidOf; rw [if_neg (by omega)]; rfl
    clear hin hl hsz
    generalize tx l = S at *
    go_enter Try.func52, Try.ntmps52
    go_wp2_with fail
    with_reducible refine (l1In_any _ _ _ _).mono ?_
    rintro e w' ⟨rfl, rfl⟩
    rw [HI.out]
    go_wp2
    go_ret
    exact ⟨ret_bool HR.out.symm, 0, rfl⟩
end Go.Proofs.Ytajelgheccfcoaa

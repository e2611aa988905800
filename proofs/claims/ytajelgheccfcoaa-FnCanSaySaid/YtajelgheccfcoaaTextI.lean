/- What a text says, at the implementation. -/
import Derived.Test.YtajelgheccfcoaaHearA
import Derived.Test.YtajelgheccfcoaaRange
namespace Go.Proofs.Ytajelgheccfcoaa
open Go.RowKit

/-- What a text says to so many people. -/
def saidOf (p : Int) (l : List UInt8) : Option Say :=
  if 1 ≤ p ∧ p ≤ 5 ∧ l.length ≤ 40 then (if (rd p.toNat l.length l).2 = [] then (rd p.toNat l.length l).1 else none) else none
theorem tx_empty {l : List UInt8} : (tx l).toList.isEmpty = l.isEmpty := by rw [ByteArray.toList_eq]; rfl

set_option maxRecDepth 100000 in
theorem claimOf_any (p : Int) (l : List UInt8) (W : World) (hl : l.length < 4611686018427387904) :
    Calls Try.prog 43 #[.int .i64 p, .string (tx l)] W fun e w' => ∃ v, e = .returned v ∧ Heard w' W.heap.size (saidOf p l) v ∧ Turned 0 0 W w' := by
  have hsz : (tx l).size = l.length := tx_size l
  by_cases hin : 1 ≤ p ∧ p ≤ 5
  · by_cases h40 : l.length ≤ 40
    · obtain ⟨q, rfl⟩ := Int.eq_ofNat_of_zero_le (show 0 ≤ p by omega)
      have HI : Hid (inB 1 5 (q : Int) = true) := inB_true hin.1 hin.2
      have hq : q ≤ 5 := by omega
      have H := Lib.hid (fun W1 h1 => hear_any q hq l.length l W.heap.size W1 (Nat.le_refl _) hl h1)
      have HR : Hid (saidOf (q : Int) l = if (rd q l.length l).2 = [] then (rd q l.length l).1 else none) := by
        unfold Hid saidOf; rw [if_pos ⟨hin.1, hin.2, h40⟩]; rfl
      have L0 : Hid (Lis (W.alloc (.cells #[.int .i64 (q : Int), .string (tx l)] 73)) W.heap.size q l) := heap_alloc_new _ _
      have hg : decide ((40 : Int) < ((tx l).size : Int)) = false := by rw [hsz]; simp; omega
      have hg' : decide (40 < (tx l).size) = false := by rw [hsz]; simp; omega
      clear hin h40 hl hsz hq
      generalize tx l = S at *
      go_enter Try.func43, Try.ntmps43
      go_wp2_with fail
      with_reducible refine (in_any _ _ _ _).mono ?_
      rintro e w' ⟨rfl, rfl⟩
      rw [HI.out]
      go_wp2_with fail
      with_reducible refine (H.out _ L0.out).mono ?_
      rintro e W2 ⟨v, rfl, hv, hL, ht⟩
      have hT : Hid (Turned 0 0 w' W2) := ⟨ht.os, ht.tape, ht.output, by have := ht.size; simp at this; omega, fun k hk _ => (ht.block k (by simp; omega) (.inl hk)).trans (Below.heap_alloc _ _ _ hk)⟩
      have hV : Hid (Heard W2 w'.heap.size (rd q l.length l).1 v) := by
        unfold Hid
        revert hv
        generalize (rd q l.length l).1 = o
        intro hv
        cases o with
        | none => exact hv
        | some a => exact IsClaim.wide (by simp) hv
      have c1 : W2.cell? ⟨w'.heap.size, 1, none⟩ = some (.string (tx (rd q l.length l).2)) := by rw [cell_of_row W2 w'.heap.size 1 _ _ _ hL]; rfl
      have et : (tx (rd q l.length l).2).toList.isEmpty = (rd q l.length l).2.isEmpty := tx_empty
      have HV2 : Hid (Heard W2 w'.heap.size (rd q l.length l).1 v ∧ True) := ⟨hV.out, trivial⟩
      clear hv hL ht
      by_cases h0 : (rd q l.length l).2 = []
      · rw [if_pos h0] at HR
        have et' : (tx (rd q l.length l).2).toList.isEmpty = true := by rw [et, h0]; rfl
        clear et h0
        generalize tx (rd q l.length l).2 = S2 at *
        go_wp2
        go_ret
        exact ⟨_, rfl, by rw [HR.out]; exact hV.out, hT.out⟩
      · rw [if_neg h0] at HR
        have et' : (tx (rd q l.length l).2).toList.isEmpty = false := by rw [et]; cases hh : (rd q l.length l).2 with
          | nil => exact absurd hh h0
          | cons a b => rfl
        clear et h0
        generalize tx (rd q l.length l).2 = S2 at *
        go_wp2
        go_ret
        exact ⟨_, rfl, by rw [HR.out]; rfl, hT.out⟩
    · have HI : Hid (inB 1 5 p = true) := inB_true hin.1 hin.2
      have HR : Hid (saidOf p l = none) := by
        unfold Hid saidOf; rw [if_neg (by omega)]
      have hg : decide ((40 : Int) < ((tx l).size : Int)) = true := by rw [hsz]; simp; omega
      have hg' : decide (40 < (tx l).size) = true := by rw [hsz]; simp; omega
      clear hin h40 hl hsz
      generalize tx l = S at *
      go_enter Try.func43, Try.ntmps43
      go_wp2_with fail
      with_reducible refine (in_any _ _ _ _).mono ?_
      rintro e w' ⟨rfl, rfl⟩
      rw [HI.out]
      go_wp2
      go_ret
      exact ⟨_, rfl, by rw [HR.out]; rfl, ⟨rfl, rfl, rfl, Nat.le_refl _, fun _ _ _ => rfl⟩⟩
  · have HI : Hid (inB 1 5 p = false) := inB_false hin
    have HR : Hid (saidOf p l = none) := by
      unfold Hid saidOf; rw [if_neg (by omega)]
    clear hin hl hsz
    generalize tx l = S at *
    go_enter Try.func43, Try.ntmps43
    go_wp2_with fail
    with_reducible refine (in_any _ _ _ _).mono ?_
    rintro e w' ⟨rfl, rfl⟩
    rw [HI.out]
    go_wp2
    go_ret
    exact ⟨_, rfl, by rw [HR.out]; rfl, ⟨rfl, rfl, rfl, Nat.le_refl _, fun _ _ _ => rfl⟩⟩

/-- Whether a text is a saying. -/
def textB (p : Int) (l : List UInt8) : Bool := (saidOf p l).isSome
set_option maxRecDepth 100000 in
theorem implTextOk_any (p : Int) (l : List UInt8) (W : World) (hl : l.length < 4611686018427387904) :
    Calls Try.prog 49 #[.int .i64 p, .string (tx l)] W fun e w' => e = .returned (.bool (textB p l)) ∧ Turned 0 0 W w' := by
  have T := Lib.hid (claimOf_any p l W hl)
  obtain ⟨o, ho⟩ : ∃ o, o = saidOf p l := ⟨_, rfl⟩
  have HB : Hid (o.isSome = textB p l) := by unfold Hid textB; rw [ho]
  rw [← ho] at T
  clear ho hl
  have q1 := fn_nil
  have q2 := fn_func
  go_enter Try.func49, Try.ntmps49
  go_wp2_with fail
  with_reducible refine T.out.mono ?_
  rintro e W1 ⟨v, rfl, hv, ht⟩
  have HT := Lib.hid ht
  clear ht
  cases o with
  | none =>
    obtain rfl : v = .nilFunc := hv
    go_wp2
    go_ret
    exact ⟨ret_bool HB.out, HT.out⟩
  | some a =>
    obtain ⟨f, caps, rfl⟩ := IsClaim.func hv
    clear hv
    go_wp2
    go_ret
    exact ⟨ret_bool HB.out, HT.out⟩
end Go.Proofs.Ytajelgheccfcoaa

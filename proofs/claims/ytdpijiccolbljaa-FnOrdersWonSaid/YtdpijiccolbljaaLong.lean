/- The longest circle; AllFind of the program. -/
import Derived.Test.YtdpijiccolbljaaCircI
namespace Go.Proofs.Ytdpijiccolbljaa
open Go.RowKit

theorem maxN_ge : ∀ (l : List Nat) (d : Nat), d ≤ maxN l d ∧ ∀ x ∈ l, x ≤ maxN l d
  | [], d => ⟨Nat.le_refl _, by simp⟩
  | a :: l, d => by
    unfold maxN
    by_cases h : a ≤ d
    · rw [Nat.ble_eq_true_of_le h, cond_true]
      have := maxN_ge l d
      refine ⟨this.1, fun x hx => ?_⟩
      rcases List.mem_cons.1 hx with rfl | hx
      · omega
      · exact this.2 x hx
    · have e : Nat.ble a d = false := by rw [Bool.eq_false_iff]; exact fun h2 => h (Nat.le_of_ble_eq_true h2)
      rw [e, cond_false]
      have := maxN_ge l a
      refine ⟨by omega, fun x hx => ?_⟩
      rcases List.mem_cons.1 hx with rfl | hx
      · exact this.1
      · exact this.2 x hx
theorem maxN_le {m : Nat} : ∀ (l : List Nat) (d : Nat), d ≤ m → (∀ x ∈ l, x ≤ m) → maxN l d ≤ m
  | [], d, h, _ => h
  | a :: l, d, h, hl => by
    unfold maxN
    have ha := hl a (by simp)
    cases Nat.ble a d
    · exact maxN_le l a ha fun x hx => hl x (by simp [hx])
    · exact maxN_le l d h fun x hx => hl x (by simp [hx])
theorem allL_out {P : Nat → Bool} : ∀ {l : List Nat}, allL P l = true → ∀ x ∈ l, P x = true
  | [], _, x, h => by cases h
  | a :: l, h, x, hx => by
    obtain ⟨h1, h2⟩ := cond_and (show cond (P a) (allL P l) false = true from h)
    rcases List.mem_cons.1 hx with rfl | hx
    · exact h1
    · exact allL_out h2 x hx

/-- The longest circle of ns. -/
def long (ns : List Nat) : Nat := longG (nx ns) ns.length
structure LongOk (ns : List Nat) : Prop where
  orb : ∀ p, p < ns.length → (orb ns p).length ≤ long ns
  wit : ∃ p, p < ns.length ∧ (Go.Proofs.Ytdpijiccolbljaa.orb ns p).length = long ns
  all : ∀ x ∈ circG (nx ns) ns.length, x ≤ long ns
  mem : long ns ∈ circG (nx ns) ns.length
theorem Perm7.long {ns : List Nat} (h : Perm7 ns) : LongOk ns := by
  obtain ⟨h1, h2⟩ := cond_and h.ofL
  obtain ⟨h2, h3⟩ := cond_and h2
  obtain ⟨h3, h4⟩ := cond_and h3
  obtain ⟨h4, h5⟩ := cond_and h4
  refine ⟨fun p hp => ?_, ⟨_, Nat.le_of_ble_eq_true h5, ?_⟩, fun x hx => Nat.le_of_ble_eq_true (allL_out h3 x hx), (hasN_iff _ _).1 h4⟩
  · have := Nat.le_of_ble_eq_true (allN_out h1 p hp)
    rwa [lenN_eq] at this
  · have := Nat.eq_of_beq_eq_true h2
    rwa [lenN_eq] at this
theorem max_long {ns : List Nat} (h : Perm7 ns) : maxN (circG (nx ns) ns.length) (nx (circG (nx ns) ns.length) 0) = long ns := by
  have hl := h.long
  have hs : 0 < (circG (nx ns) ns.length).length := by rw [length_circG]; exact h.some
  apply Nat.le_antisymm
  · exact maxN_le _ _ (hl.all _ (nx_mem hs)) hl.all
  · exact (maxN_ge _ _).2 _ hl.mem
theorem long_bd {ns : List Nat} (h : Perm7 ns) : long ns ≤ 7 := by
  obtain ⟨p, hp, e⟩ := h.long.wit
  rw [← e]; exact length_orb ns p

set_option maxRecDepth 100000 in
theorem longest_any (v : Value) (ns : List Nat) (w : World) (h : Rd w v (iz ns)) (hP : Perm7 ns) :
    Calls Try.prog 49 #[v] w fun e w' => e = .returned (.int .i64 (long ns : Nat)) ∧ Below w.heap.size w w' := by
  have HM := Lib.hid (max_long hP)
  have HC := Lib.hid (circI_iz hP)
  have HS : Hid (0 < (circG (nx ns) ns.length).length) := by unfold Hid; rw [length_circG]; exact hP.some
  go_enter Try.func49, Try.ntmps49
  go_wp2_with fail
  with_reducible refine (implCirclesOf_any v (iz ns) _ h).mono ?_
  rintro e w1 ⟨v1, rfl, o1, b1⟩
  rw [HC.out] at o1
  have r1 := o1.rd
  have HB := Lib.hid b1
  clear o1 b1
  go_wp2_with fail
  with_reducible refine (max_any _ _ _ r1 HS.out).mono ?_
  rintro e w' ⟨rfl, rfl⟩
  rw [HM.out]
  clear r1
  go_wp2
  go_ret
  exact ⟨rfl, HB.out⟩

/-- What AllFind returns. -/
def findB (zs : List Int) (t : Int) : Bool := boxB zs && (inB 0 7 t && decide ((long (nz zs) : Int) ≤ t))
theorem findB_no {zs : List Int} {t : Int} (h : boxB zs = false) : findB zs t = false := by unfold findB; rw [h]; rfl
theorem findB_iz {ns : List Nat} (h : Perm7 ns) (t : Int) : findB (iz ns) t = (inB 0 7 t && decide ((long ns : Int) ≤ t)) := by unfold findB; rw [perm_boxB h, nz_iz]; rfl

set_option maxHeartbeats 800000 in
set_option maxRecDepth 100000 in
theorem implAllFind_any (v : Value) (zs : List Int) (t : Int) (w : World) (h : Rd w v zs) :
    Calls Try.prog 30 #[v, .int .i64 t] w fun e w' => e = .returned (.bool (findB zs t)) ∧ Below w.heap.size w w' := by
  have hR := h
  obtain ⟨a1, c1, rfl, l1, m1, -⟩ := h
  go_enter Try.func30, Try.ntmps30
  go_wp2_with fail
  with_reducible refine (implBoxesOk_any _ zs _ hR).mono ?_
  rintro e w' ⟨rfl, rfl⟩
  rcases Bool.eq_false_or_eq_true (boxB zs) with hb | hb
  rotate_left
  · rw [hb]
    have HF := Lib.hid (findB_no (t := t) hb)
    clear hb
    go_wp2
    go_ret
    exact ⟨ret_bool HF.out.symm, Below.refl _ _⟩
  rw [hb]
  obtain ⟨ns, rfl, hP⟩ := boxB_perm hb
  have HF := Lib.hid (findB_iz hP t)
  clear hb
  go_wp2_with fail
  with_reducible refine (in_any _ _ _ _).mono ?_
  rintro e w' ⟨rfl, rfl⟩
  rcases Bool.eq_false_or_eq_true (inB 0 7 t) with hb | hb
  rotate_left
  · rw [hb]
    have HF2 : Hid (findB (iz ns) t = false) := by unfold Hid; rw [HF.out, hb]; rfl
    clear hb
    go_wp2
    go_ret
    exact ⟨ret_bool HF2.out.symm, Below.refl _ _⟩
  rw [hb]
  have HF2 : Hid (findB (iz ns) t = decide ((long ns : Int) ≤ t)) := by unfold Hid; rw [HF.out, hb]; rfl
  clear hb
  go_wp2_with fail
  with_reducible refine (longest_any _ ns _ hR hP).mono ?_
  rintro e w1 ⟨rfl, b1⟩
  have HB := Lib.hid b1
  clear b1
  generalize long ns = m at *
  go_wp2
  go_ret
  exact ⟨ret_bool (by rw [HF2.out]), HB.out⟩
end Go.Proofs.Ytdpijiccolbljaa

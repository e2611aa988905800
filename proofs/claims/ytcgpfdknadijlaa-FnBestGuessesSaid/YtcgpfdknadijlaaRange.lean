/- allIn: whether all numbers are in a range. -/
import Derived.Test.YtcgpfdknadijlaaProg
import Derived.Test.YtcgpfdknadijlaaBase
namespace Go.Proofs.Ytcgpfdknadijlaa
open Go.RowKit

def inB (lo hi z : Int) : Bool := decide (lo ≤ z) && decide (z ≤ hi)
def allB (lo hi : Int) (zs : List Int) : Bool := zs.all (inB lo hi)

theorem inB_out {lo hi z : Int} (h : inB lo hi z = false) : ¬ (lo ≤ z ∧ z ≤ hi) := by
  simp only [inB, Bool.and_eq_false_iff, decide_eq_false_iff_not] at h; omega
theorem inB_in {lo hi z : Int} (h : inB lo hi z = true) : lo ≤ z ∧ z ≤ hi := by
  simpa only [inB, Bool.and_eq_true, decide_eq_true_eq] using h
theorem inB_true {lo hi z : Int} (h1 : lo ≤ z) (h2 : z ≤ hi) : inB lo hi z = true := by simp [inB, h1, h2]
theorem inB_false {lo hi z : Int} (h : ¬ (lo ≤ z ∧ z ≤ hi)) : inB lo hi z = false := by
  cases hb : inB lo hi z
  · rfl
  · exact absurd (inB_in hb) h

set_option maxRecDepth 100000 in
theorem l1In_any (n lo hi : Int) (w : World) :
    Calls Try.prog 34 #[.int .i64 n, .int .i64 lo, .int .i64 hi] w fun e w' => e = .returned (.bool (inB lo hi n)) ∧ w' = w := by
  by_cases h1 : lo ≤ n
  · by_cases h2 : n ≤ hi
    · have e : inB lo hi n = true := by simp [inB, h1, h2]
      have E := Lib.hid e; clear e
      go_enter Try.func34, Try.ntmps34
      go_wp2
      go_ret
      exact ⟨ret_bool E.out.symm, rfl⟩
    · have e : inB lo hi n = false := by simp [inB, h2]
      have E := Lib.hid e; clear e
      go_enter Try.func34, Try.ntmps34
      go_wp2
      go_ret
      exact ⟨ret_bool E.out.symm, rfl⟩
  · have e : inB lo hi n = false := by simp [inB, h1]
    have E := Lib.hid e; clear e
    go_enter Try.func34, Try.ntmps34
    go_wp2
    go_ret
    exact ⟨ret_bool E.out.symm, rfl⟩

set_option maxRecDepth 100000 in
theorem in_any (n lo hi : Int) (w : World) :
    Calls Try.prog 31 #[.int .i64 n, .int .i64 lo, .int .i64 hi] w fun e w' => e = .returned (.bool (inB lo hi n)) ∧ w' = w := by
  by_cases h1 : lo ≤ n
  · by_cases h2 : n ≤ hi
    · have e : inB lo hi n = true := by simp [inB, h1, h2]
      have E := Lib.hid e; clear e
      go_enter Try.func31, Try.ntmps31
      go_wp2
      go_ret
      exact ⟨ret_bool E.out.symm, rfl⟩
    · have e : inB lo hi n = false := by simp [inB, h2]
      have E := Lib.hid e; clear e
      go_enter Try.func31, Try.ntmps31
      go_wp2
      go_ret
      exact ⟨ret_bool E.out.symm, rfl⟩
  · have e : inB lo hi n = false := by simp [inB, h1]
    have E := Lib.hid e; clear e
    go_enter Try.func31, Try.ntmps31
    go_wp2
    go_ret
    exact ⟨ret_bool E.out.symm, rfl⟩

set_option maxRecDepth 100000 in
theorem allIn1_any (n lo hi : Int) (bl bh : Nat) (w : World) (hl : w.cell? ⟨bl, 0, none⟩ = some (.int .i64 lo)) (hh : w.cell? ⟨bh, 0, none⟩ = some (.int .i64 hi)) :
    Calls Try.prog 39 #[.int .i64 n, .pointer (some ⟨bl, 0, none⟩), .pointer (some ⟨bh, 0, none⟩)] w fun e w' => e = .returned (.bool (!inB lo hi n)) ∧ w' = w := by
  go_enter Try.func39, Try.ntmps39
  go_wp2_with fail
  refine (in_any _ _ _ _).mono ?_
  rintro e w' ⟨rfl, rfl⟩
  obtain ⟨b, hb⟩ : ∃ b, b = inB lo hi n := ⟨_, rfl⟩
  rw [← hb]
  have HB := Lib.hid hb; clear hb
  go_wp2
  go_ret
  exact ⟨ret_bool (by rw [HB.out]), rfl⟩

/-- The place of the first number out of the range, or -1. -/
def firstOut (lo hi : Int) (zs : List Int) : Int := if allB lo hi zs then -1 else ((zs.findIdx fun z => !inB lo hi z) : Nat)

set_option maxRecDepth 100000 in
theorem IndexFunc_in (v : Value) (zs : List Int) (lo hi : Int) (bl bh : Nat) (w : World) (h : Rd w v zs) (hl : w.cell? ⟨bl, 0, none⟩ = some (.int .i64 lo)) (hh : w.cell? ⟨bh, 0, none⟩ = some (.int .i64 hi)) :
    Calls Try.prog 42 #[v, .func (.func 39) #[] #[.pointer (some ⟨bl, 0, none⟩), .pointer (some ⟨bh, 0, none⟩)]] w fun e w' => (∃ k : Int, e = .returned (.int .i64 k) ∧ (0 ≤ k ↔ allB lo hi zs = false)) ∧ w' = w := by
  obtain ⟨a1, c1, rfl, l1, m1, r1⟩ := h
  go_enter Try.func42, Try.ntmps42
  go_wp2
  go_loop [8] (fun i => ∃ k : Nat, k ≤ zs.length ∧ i = .int .i64 k ∧ Hid (allB lo hi (zs.take k) = true)) (fun i => zs.length - (intOf i).toNat)
  case atStart => exact ⟨0, Nat.zero_le _, rfl, rfl⟩
  case round =>
    obtain ⟨k, hk, rfl, hno⟩ := hrel
    by_cases hlt : k < zs.length
    · obtain ⟨g1, o1, z, rfl, hg1, x1, HZ⟩ := rd_at r1 k hlt
      clear r1
      go_wp2_with fail
      refine (allIn1_any _ _ _ _ _ _ hl hh).mono ?_
      rintro e w' ⟨rfl, rfl⟩
      have HT := Lib.hid (take_snoc zs k hlt)
      rcases Bool.eq_false_or_eq_true (inB lo hi z) with hb | hb
      · rw [hb]
        have HB := Lib.hid hb; clear hb
        go_wp2
        go_round
        case rel => exact ⟨k + 1, by omega, by go_num, by
          have h1 := hno.out
          unfold Hid
          rw [HT.out, ← HZ.out]
          simp only [allB, List.all_append, List.all_cons, List.all_nil, Bool.and_true] at h1 ⊢
          rw [h1, HB.out]; rfl⟩
        case measure => simp [intOf]; omega
      · rw [hb]
        have hf : allB lo hi zs = false := by
          have hm : z ∈ zs := by rw [HZ.out]; simp [List.getD, List.getElem?_eq_getElem hlt]
          rw [allB, List.all_eq_false]
          exact ⟨z, hm, by simp [hb]⟩
        have HF := Lib.hid hf; clear hf hb
        go_wp2
        go_ret
        exact ⟨⟨k, rfl, fun _ => HF.out, fun _ => by omega⟩, rfl⟩
    · have hk' : k = zs.length := by omega
      subst hk'
      go_wp2
      go_ret
      refine ⟨⟨-1, rfl, fun h => by omega, fun h => ?_⟩, rfl⟩
      have := hno.out
      rw [List.take_length, h] at this
      cases this

set_option maxRecDepth 100000 in
theorem ContainsFunc_in (v : Value) (zs : List Int) (lo hi : Int) (bl bh : Nat) (w : World) (h : Rd w v zs) (hl : w.cell? ⟨bl, 0, none⟩ = some (.int .i64 lo)) (hh : w.cell? ⟨bh, 0, none⟩ = some (.int .i64 hi)) :
    Calls Try.prog 38 #[v, .func (.func 39) #[] #[.pointer (some ⟨bl, 0, none⟩), .pointer (some ⟨bh, 0, none⟩)]] w fun e w' => e = .returned (.bool (!allB lo hi zs)) ∧ w' = w := by
  go_enter Try.func38, Try.ntmps38
  go_wp2_with fail
  refine (IndexFunc_in _ _ _ _ _ _ _ h hl hh).mono ?_
  rintro e w' ⟨⟨k, rfl, hk⟩, rfl⟩
  have HK := Lib.hid hk; clear hk
  by_cases h0 : 0 ≤ k
  · go_wp2
    go_ret
    exact ⟨ret_bool (by rw [HK.out.1 h0]; simp), rfl⟩
  · go_wp2
    go_ret
    have h1 : allB lo hi zs = true := by
      cases hb : allB lo hi zs
      · exact absurd (HK.out.2 hb) (by omega)
      · rfl
    exact ⟨ret_bool (by rw [h1]; simp; omega), rfl⟩

set_option maxRecDepth 100000 in
theorem allIn_any (v : Value) (zs : List Int) (lo hi : Int) (w : World) (h : Rd w v zs) :
    Calls Try.prog 25 #[v, .int .i64 lo, .int .i64 hi] w fun e w' => e = .returned (.bool (allB lo hi zs)) ∧ Below w.heap.size w w' := by
  have hmf : ∀ (fn : Fn) (first cap : Array Value) (w : World), (Instr.makeFunc fn first cap).run Try.prog w = .ok (.func fn first cap) w := fun _ _ _ _ => rfl
  have hb2 : Below w.heap.size w ((w.alloc (.cells #[.int .i64 lo] 3)).alloc (.cells #[.int .i64 hi] 3)) := ((Below.refl _ _).alloc (Nat.le_refl _) _).alloc (by simp) _
  have h2 := h.below hb2
  have hl : ((w.alloc (.cells #[.int .i64 lo] 3)).alloc (.cells #[.int .i64 hi] 3)).cell? ⟨w.heap.size, 0, none⟩ = some (.int .i64 lo) := by
    rw [World.cell?_alloc_past _ _ _ (by simp), World.cell?_alloc_at _ _ _ _ rfl]; rfl
  have hh : ((w.alloc (.cells #[.int .i64 lo] 3)).alloc (.cells #[.int .i64 hi] 3)).cell? ⟨w.heap.size + 1, 0, none⟩ = some (.int .i64 hi) := by
    rw [World.cell?_alloc_at _ _ _ _ (by simp)]; rfl
  go_enter Try.func25, Try.ntmps25
  go_wp2_with fail
  refine (ContainsFunc_in v zs lo hi _ _ _ h2 hl hh).mono ?_
  rintro e w' ⟨rfl, rfl⟩
  obtain ⟨b, hb⟩ : ∃ b, b = allB lo hi zs := ⟨_, rfl⟩
  rw [← hb]
  have HB := Lib.hid hb; clear hb
  go_wp2
  go_ret
  exact ⟨ret_bool (by rw [← HB.out]), hb2⟩

end Go.Proofs.Ytcgpfdknadijlaa

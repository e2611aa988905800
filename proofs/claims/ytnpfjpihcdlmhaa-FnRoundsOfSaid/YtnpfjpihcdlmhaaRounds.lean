/- RoundsOf, of the program and of the reference. -/
import Derived.Test.YtnpfjpihcdlmhaaRange
import Derived.Test.YtnpfjpihcdlmhaaInts
namespace Go.Proofs.Ytnpfjpihcdlmhaa
open Go.RowKit

def rndB (p r f : Int) : Bool := inB 1 5 p && (inB 0 12 r && inB 0 (p - 1) f)
/-- The visits of the first n calls, round by round. -/
def rndL (p f : Int) (n : Nat) : List Int := (List.range n).map fun (k : Nat) => (f + (k : Int)) % p
def rnd (p r f : Int) : List Int := if rndB p r f then rndL p f (p * r).toNat else []

theorem length_rndL (p f : Int) (n : Nat) : (rndL p f n).length = n := by simp [rndL]
theorem rndL_succ (p f : Int) (n : Nat) : rndL p f (n + 1) = rndL p f n ++ [(f + (n : Int)) % p] := by simp [rndL, List.range_succ]

theorem rnd_step (p f : Int) (M j : Nat) (h : j < M) : (rndL p f j ++ List.replicate (M - j) 0).set j ((f + (j : Int)) % p) = rndL p f (j + 1) ++ List.replicate (M - (j + 1)) 0 := by
  have er : List.replicate (M - j) (0 : Int) = 0 :: List.replicate (M - (j + 1)) 0 := by
    rw [show M - j = M - (j + 1) + 1 from by omega, List.replicate_succ]
  rw [rndL_succ, List.set_append_right _ _ (by rw [length_rndL]; exact Nat.le_refl _), length_rndL, Nat.sub_self, er]
  simp only [List.set_cons_zero, List.append_assoc, List.singleton_append]

theorem rndB_yes {p r f : Int} (h : rndB p r f = true) : 1 ≤ p ∧ p ≤ 5 ∧ 0 ≤ r ∧ r ≤ 12 ∧ 0 ≤ f ∧ f ≤ p - 1 := by
  simp only [rndB, inB, Bool.and_eq_true, decide_eq_true_eq] at h; omega
theorem rndB_mul {p r : Int} (h1 : 1 ≤ p) (h2 : p ≤ 5) (h3 : 0 ≤ r) (h4 : r ≤ 12) : 0 ≤ p * r ∧ p * r ≤ 60 := by
  have a : p = 1 ∨ p = 2 ∨ p = 3 ∨ p = 4 ∨ p = 5 := by omega
  rcases a with rfl | rfl | rfl | rfl | rfl <;> omega

theorem rnd_len (p r f : Int) : (rnd p r f).length ≤ 60 := by
  unfold rnd
  split
  · rename_i h
    obtain ⟨h1, h2, h3, h4, _, _⟩ := rndB_yes h
    have := rndB_mul h1 h2 h3 h4
    rw [length_rndL]; omega
  · simp

set_option maxRecDepth 100000 in
theorem specRoundsOf_any (p r f : Int) (w : World) (hp : -9223372036854775808 ≤ p ∧ p ≤ 9223372036854775807) :
    Calls Try.prog 23 #[.int .i64 p, .int .i64 r, .int .i64 f] w fun e w' => ∃ u, e = .returned u ∧ Own w' w.heap.size w'.heap.size u (rnd p r f) ∧ Below w.heap.size w w' := by
  obtain ⟨i0, hi, hz0, hz1, hz2⟩ := info_parts infoInt
  go_enter Try.func23, Try.ntmps23
  go_wp2_with fail
  by_cases hok : rndB p r f = true
  · obtain ⟨h1, h2, h3, h4, h5, h6⟩ := rndB_yes hok
    obtain ⟨hm0, hm1⟩ := rndB_mul h1 h2 h3 h4
    have hmul : r * p = p * r := Int.mul_comm _ _
    have hmw : wrap64 (r * p) = p * r := by rw [hmul]; exact IntWalk.wrap64_in _ (by omega)
    obtain ⟨m, hm⟩ : ∃ m : Int, m = p * r := ⟨_, rfl⟩
    rw [← hm] at hm0 hm1 hmw
    have HR : Hid (rnd p r f = rndL p f m.toNat) := by unfold Hid rnd; rw [if_pos hok, hm]
    clear hm hmul hok
    go_loopw [7, 8] (fun v i wr => ∃ k : Nat, (k : Int) ≤ m ∧ i = .int .i64 k ∧ wr.ownsRow w.heap.size 3 1 v (rndL p f k).length ((rndL p f k).map (Value.int .i64)) ∧ Below w.heap.size w wr ∧ w.heap.size ≤ wr.heap.size)
      (fun _ i _ => m.toNat - (intOf i).toNat)
    case atStart => exact ⟨0, by omega, rfl, World.ownsRow_lit w #[] 0 (Nat.le_refl _) (by simp) (by simp), (Below.refl _ _).alloc (Nat.le_refl _) _, by simp⟩
    case round =>
      obtain ⟨k, hk, rfl, hown, hb, hsz⟩ := hrel
      by_cases hlt : (k : Int) < m
      · have hq : 0 ≤ f + (k : Int) := by omega
        go_wp2_with (first | (at_builtin; go_loud (refine wpList_append_own _ rfl _ _ 22 rfl w.heap.size 3 i0 (.int .i64 0) 1 8 Try.underlying22 hi hz0 hz1 hz2 rfl (by decide) _ _ _ rfl (hown.alloc _) ⟨wr.heap.size, 0, none⟩ 1 1 [.int .i64 ((f + (k : Int)) % p)] rfl rfl (one_new _ _ _) ?c2 ?c3 ?c4 ?c5 ?_)) | go_in)
        case c2 => exact one_cell _ _
        case c3 => unfold maxLen; rw [length_rndL]; omega
        case c4 => rw [length_rndL]; omega
        case c5 => simp; omega
        intro v' w1 hown' hgr _
        obtain ⟨r1, r2, r3⟩ := app_rel hown hb (Nat.le_refl _) hsz hown' hgr
        rw [← rndL_succ] at r1
        clear hown hown' hgr hb hz0 hz1 hz2 hi
        go_wp2
        go_roundw
        case rel => exact ⟨k + 1, by omega, by go_num, r1, r2, r3⟩
        case measure => simp [intOf]; omega
      · have e : k = m.toNat := by omega
        subst e
        rw [← HR.out] at hown
        go_wp2
        go_ret
        exact ⟨_, rfl, Own.new hown (Nat.le_refl _), hb⟩
  · have hx : ¬ (1 ≤ p ∧ p ≤ 5) ∨ ¬ (0 ≤ r ∧ r ≤ 12) ∨ ¬ (0 ≤ f ∧ f ≤ p - 1) := by
      simp only [rndB, inB, Bool.and_eq_true, decide_eq_true_eq] at hok; omega
    have HR : Hid (rnd p r f = []) := by unfold Hid rnd; rw [if_neg hok]
    have hown : (w.alloc (.cells #[] 3)).ownsRow w.heap.size 3 1 (.slice (some ⟨w.heap.size, 0, none⟩) 0 0) 0 [] := World.ownsRow_lit w #[] 0 (Nat.le_refl _) (by simp) (by simp)
    have HO := Lib.hid hown
    clear hok hown
    refine wp_loop_rounds 1 ?_
    rw [rounds_succ]
    by_cases h0 : 0 < wrap64 (r * p)
    · by_cases h1 : 1 ≤ p ∧ p ≤ 5
      · by_cases h2 : 0 ≤ r ∧ r ≤ 12
        · have h3 : ¬ (0 ≤ f ∧ f ≤ p - 1) := by omega
          obtain ⟨h1a, h1b⟩ := h1
          obtain ⟨h2a, h2b⟩ := h2
          by_cases h4 : 0 ≤ f
          · go_wp2
            go_ret
            exact ⟨_, rfl, Own.new (by rw [HR.out]; exact HO.out) (Nat.le_refl _), (Below.refl _ _).alloc (Nat.le_refl _) _⟩
          · go_wp2
            go_ret
            exact ⟨_, rfl, Own.new (by rw [HR.out]; exact HO.out) (Nat.le_refl _), (Below.refl _ _).alloc (Nat.le_refl _) _⟩
        · obtain ⟨h1a, h1b⟩ := h1
          by_cases h4 : 0 ≤ r
          · go_wp2
            go_ret
            exact ⟨_, rfl, Own.new (by rw [HR.out]; exact HO.out) (Nat.le_refl _), (Below.refl _ _).alloc (Nat.le_refl _) _⟩
          · go_wp2
            go_ret
            exact ⟨_, rfl, Own.new (by rw [HR.out]; exact HO.out) (Nat.le_refl _), (Below.refl _ _).alloc (Nat.le_refl _) _⟩
      · by_cases h4 : 1 ≤ p
        · go_wp2
          go_ret
          exact ⟨_, rfl, Own.new (by rw [HR.out]; exact HO.out) (Nat.le_refl _), (Below.refl _ _).alloc (Nat.le_refl _) _⟩
        · go_wp2
          go_ret
          exact ⟨_, rfl, Own.new (by rw [HR.out]; exact HO.out) (Nat.le_refl _), (Below.refl _ _).alloc (Nat.le_refl _) _⟩
    · go_wp2
      go_ret
      exact ⟨_, rfl, Own.new (by rw [HR.out]; exact HO.out) (Nat.le_refl _), (Below.refl _ _).alloc (Nat.le_refl _) _⟩

set_option maxRecDepth 100000 in
theorem implRoundsOf_any (p r f : Int) (w : World) :
    Calls Try.prog 24 #[.int .i64 p, .int .i64 r, .int .i64 f] w fun e w' => ∃ u, e = .returned u ∧ Own w' w.heap.size w'.heap.size u (rnd p r f) ∧ Below w.heap.size w w' := by
  obtain ⟨i0, hi, hz0, hz1, hz2⟩ := info_parts infoInt
  have HN : Hid (rndB p r f = false → Own w w.heap.size w.heap.size (.slice none 0 0) (rnd p r f)) := by
    intro hr
    unfold rnd
    rw [if_neg (by simp [hr])]
    exact Own.new (World.ownsRow_nil _ _ _ _) (Nat.le_refl _)
  go_enter Try.func24, Try.ntmps24
  go_wp2_with fail
  refine (in_any _ _ _ _).mono ?_
  rintro e w' ⟨rfl, rfl⟩
  rcases Bool.eq_false_or_eq_true (inB 1 5 p) with hb | hb
  · have hp := inB_in hb
    rw [hb]
    go_wp2_with fail
    refine (in_any _ _ _ _).mono ?_
    rintro e w' ⟨rfl, rfl⟩
    rcases Bool.eq_false_or_eq_true (inB 0 12 r) with hb2 | hb2
    · have hr := inB_in hb2
      rw [hb2]
      go_wp2_with fail
      refine (in_any _ _ _ _).mono ?_
      rintro e w' ⟨rfl, rfl⟩
      rcases Bool.eq_false_or_eq_true (inB 0 (p - 1) f) with hb3 | hb3
      · have hf := inB_in hb3
        rw [hb3]
        have HB : Hid (rndB p r f = true) := by unfold Hid rndB; rw [hb, hb2, hb3]; rfl
        clear hb hb2 hb3
        obtain ⟨p1, p2⟩ := hp
        obtain ⟨q1, q2⟩ := hr
        obtain ⟨s1, s2⟩ := hf
        obtain ⟨m0, m1⟩ := rndB_mul p1 p2 q1 q2
        obtain ⟨M, hM⟩ : ∃ M : Nat, (M : Int) = p * r := ⟨(p * r).toNat, by omega⟩
        have hmw : wrap64 (p * r) = (M : Int) := by rw [hM]; exact IntWalk.wrap64_in _ (by omega)
        have HR : Hid (rnd p r f = rndL p f M) := by unfold Hid rnd; rw [if_pos HB.out, ← hM]; rfl
        have hM60 : M ≤ 60 := by omega
        clear hM m0 m1
        go_wp2_with (at_make; refine wpList_make_full _ rfl _ _ 22 rfl w'.heap.size 3 i0 (.int .i64 0) 1 Try.underlying22 hi hz0 hz1 _ _ _ _ M rfl rfl hmw hmw ?c1 ?c2 ?c3 ?_)
        case c1 => rw [hz2]; omega
        case c2 => unfold maxLen; omega
        case c3 => exact Nat.le_refl _
        intro w1 hown hgr
        have e0 : (madeCells #[Value.int .i64 0] M).toList = (rndL p f 0 ++ List.replicate (M - 0) (0 : Int)).map (Value.int .i64) := (toList_madeCells_one _ _).trans (by simp [rndL])
        rw [e0] at hown
        have hb1 : Below w'.heap.size w' w1 := (Below.refl _ _).grown hgr (Nat.le_refl _) (fun k hk => by cases hk)
        clear e0 hz0 hz1 hz2 hi hgr hmw
        go_wp2
        go_loopw [30] (fun i wr => ∃ k : Nat, k ≤ M ∧ i = .int .i64 k ∧ wr.ownsRow w'.heap.size 3 1 (.slice (some ⟨w'.heap.size, 0, none⟩) M M) M ((rndL p f k ++ List.replicate (M - k) 0).map (Value.int .i64)) ∧ Below w'.heap.size w' wr)
          (fun i _ => M - (intOf i).toNat)
        case atStart => exact ⟨0, Nat.zero_le _, rfl, hown, hb1⟩
        case round =>
          clear hown hb1
          obtain ⟨k, hk, rfl, hr, hbr⟩ := hrel
          by_cases hlt : k < M
          · have hfr := hr.frozenAt k
            obtain ⟨u, hc⟩ := own_cell hr k hlt
            have hq : 0 ≤ f + (k : Int) := by omega
            have hst := hr.stored k (.int .i64 ((f + (k : Int)) % p))
            have HST := Lib.hid hst
            clear hst
            go_wp2
            go_roundw
            case rel =>
              refine ⟨k + 1, by omega, by go_num, ?_, hbr.grown HST.out.2 hbr.size (fun j hj => by injection hj with hj; omega)⟩
              have := HST.out.1
              rw [← rnd_step p f M k hlt, List.map_set]
              exact this
            case measure => simp [intOf]; omega
          · have hk' : k = M := by omega
            subst hk'
            go_wp2
            go_ret
            refine ⟨_, rfl, ?_, hbr⟩
            rw [HR.out]
            refine Own.new ?_ (Nat.le_refl _)
            rw [length_rndL]
            simpa using hr
      · have HR : Hid (rndB p r f = false) := by unfold Hid rndB; rw [hb3]; simp
        rw [hb3]
        clear hb hb2 hb3
        go_wp2
        go_ret
        exact ⟨_, rfl, HN.out HR.out, Below.refl _ _⟩
    · have HR : Hid (rndB p r f = false) := by unfold Hid rndB; rw [hb2]; simp
      rw [hb2]
      clear hb hb2
      go_wp2
      go_ret
      exact ⟨_, rfl, HN.out HR.out, Below.refl _ _⟩
  · have HR : Hid (rndB p r f = false) := by unfold Hid rndB; rw [hb]; simp
    rw [hb]
    clear hb
    go_wp2
    go_ret
    exact ⟨_, rfl, HN.out HR.out, Below.refl _ _⟩
end Go.Proofs.Ytnpfjpihcdlmhaa

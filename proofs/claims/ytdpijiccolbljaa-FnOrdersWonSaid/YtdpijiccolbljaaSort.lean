/- slices.Sort at few numbers: the walk of the insertion. -/
import Derived.Test.YtdpijiccolbljaaSortP
namespace Go.Proofs.Ytdpijiccolbljaa
open Go.RowKit

theorem turned_drewN {lo hi : Nat} {a b : World} (h : Turned lo hi a b) (n : Nat) : Turned lo hi a (b.drewN n) := ⟨h.os, h.tape, h.output, h.size, h.block⟩
theorem turned_trans2 {lo hi : Nat} {a b c : World} (h : Turned lo hi a b) (k : Turned lo hi b c) : Turned lo hi a c :=
  ⟨k.os.trans h.os, k.tape.trans h.tape, k.output.trans h.output, Nat.le_trans h.size k.size, fun i hi hne => (k.block i (Nat.lt_of_lt_of_le hi h.size) hne).trans (h.block i hi hne)⟩
/-- Whether a is less than b, under a name. -/
def ltB (a b : Int) : Bool := decide (a < b)
set_option maxRecDepth 100000 in
theorem less_any (a b : Int) (w : World) :
    Calls Try.prog 74 #[.int .i64 a, .int .i64 b] w fun e w' => e = .returned (.bool (ltB a b)) ∧ w' = w := by
  have ha : (a != a) = false := by simp
  have hb : (b != b) = false := by simp
  go_enter Try.func74, Try.ntmps74
  go_wp2
  go_ret
  exact ⟨rfl, rfl⟩

set_option maxRecDepth 100000 in
theorem bitsLen_any (n : Nat) (w : World) (hn : n ≤ 7) :
    Calls Try.prog 64 #[.int .u64 n] w fun e w' => (∃ k : Int, e = .returned (.int .i64 k)) ∧ w' = w := by
  obtain rfl | rfl | rfl | rfl | rfl | rfl | rfl | rfl : n = 0 ∨ n = 1 ∨ n = 2 ∨ n = 3 ∨ n = 4 ∨ n = 5 ∨ n = 6 ∨ n = 7 := by omega
  all_goals
    go_enter Try.func64, Try.ntmps64
    go_wp2
    go_ret
    exact ⟨⟨_, rfl⟩, rfl⟩

set_option maxHeartbeats 1600000 in
set_option maxRecDepth 100000 in
theorem insertion_any (lo hi g cap : Nat) (us : List Nat) (w : World) (h : Own w lo hi (.slice (some ⟨g, 0, none⟩) us.length cap) (iz us)) (h0 : 0 < us.length) (h7 : us.length ≤ 7) :
    Calls Try.prog 68 #[.slice (some ⟨g, 0, none⟩) us.length cap, .int .i64 0, .int .i64 us.length] w fun e w' => e = .returned (.tuple #[]) ∧ Own w' lo hi (.slice (some ⟨g, 0, none⟩) us.length cap) (iz (srtN [] us)) ∧ Turned lo hi w w' := by
  have HS : Hid (Own w lo hi (.slice (some ⟨g, 0, none⟩) us.length cap) (iz (srtK us 1 ++ us.drop 1))) := by rw [srtK_one us h0]; exact h
  clear h
  go_enter Try.func68, Try.ntmps68
  go_wp2
  go_loopg [6] (us.length - 1) (fun gk s6 wr => ∃ i : Nat, 1 ≤ i ∧ i ≤ us.length ∧ gk = us.length - i ∧ s6 = .int .i64 i ∧ Own wr lo hi (.slice (some ⟨g, 0, none⟩) us.length cap) (iz (srtK us i ++ us.drop i)) ∧ Turned lo hi w wr)
  case atStart => exact ⟨1, Nat.le_refl _, h0, rfl, rfl, HS.out, ⟨rfl, rfl, rfl, Nat.le_refl _, fun _ _ _ => rfl⟩⟩
  case round =>
    clear HS
    obtain ⟨wo, rfl⟩ : ∃ wo : World, wo = wr := ⟨_, rfl⟩
    obtain ⟨i, hi1, hi2, rfl, rfl, ho, ht⟩ := hrel
    have HO := Lib.hid ho
    have HT := Lib.hid ht
    clear ho ht
    by_cases hlt : i < us.length
    · have HS1 : Hid (Own wo lo hi (.slice (some ⟨g, 0, none⟩) us.length cap) (iz (rowAt us i i))) := by unfold Hid; rw [rowAt_start us i hlt]; exact HO.out
      have HD : Hid (∀ x ∈ (srtK us i).drop i, nx us i < x) := fun x hx => by
        rw [List.drop_of_length_le (by rw [length_srtK us i hi2]; exact Nat.le_refl _)] at hx; cases hx
      have hrl : ∀ j, (iz (rowAt us i j)).length = us.length := fun j => by rw [length_iz, length_rowAt us i j hlt]
      have HRL := Lib.hid hrl
      clear hrl
      go_wp2
      go_loopg [7] i (fun gj s7 wr => ∃ j : Nat, j ≤ i ∧ gj = j ∧ s7 = .int .i64 j ∧ Own wr lo hi (.slice (some ⟨g, 0, none⟩) us.length cap) (iz (rowAt us i j)) ∧ Hid (∀ x ∈ (srtK us i).drop j, nx us i < x) ∧ Turned lo hi w wr)
      case atStart => exact ⟨i, Nat.le_refl _, rfl, rfl, HS1.out, HD, HT.out⟩
      case round =>
        clear HS1 HD HO HT
        obtain ⟨j, hj, hg, rfl, ho, hd, ht⟩ := hrel
        have HG := Lib.hid hg
        clear hg
        rcases j with _ | j
        · have HE := Lib.hid (rowAt_end us i 0 hlt (Nat.zero_le _) hd.out (.inl rfl))
          have HO := Lib.hid ho
          have HT := Lib.hid ht
          clear ho ht
          go_wp2
          go_quiet (fail)
          go_wp2
          go_roundg (us.length - (i + 1))
          case measure => omega
          case rel => exact ⟨i + 1, by omega, by omega, rfl, by go_num, by rw [← HE.out]; exact HO.out.drewN _, turned_drewN HT.out _⟩
        · have x1 := ho.cellAt (j + 1) (by rw [HRL.out]; omega)
          have x0 := ho.cellAt j (by rw [HRL.out]; omega)
          rw [getD_iz, rowAt_here us i (j + 1) hlt hj] at x1
          rw [getD_iz, rowAt_before us i j hlt (by omega)] at x0
          have f1 := ho.frozenAt (j + 1) (by rw [HRL.out])
          have f0 := ho.frozenAt j (by rw [HRL.out])
          have HO := Lib.hid ho
          have HT := Lib.hid ht
          obtain ⟨a, ha⟩ : ∃ a, a = nx us i := ⟨_, rfl⟩
          obtain ⟨x, hx⟩ : ∃ x, x = nx (srtK us i) j := ⟨_, rfl⟩
          rw [← ha] at x1
          rw [← hx] at x0
          have HA := Lib.hid ha
          have HX := Lib.hid hx
          have hwr : IntKind.i64.wrap ((j : Int) + 1 - 1) = (j : Int) := by rw [IntKind.wrap_i64]; omega
          have hj1 : (j : Int) + 1 < us.length := by omega
          have hj2 : (j : Int) < us.length := by omega
          clear ho ht ha hx
          by_cases hax : a < x
          · have hlb : ltB (a : Int) (x : Int) = true := by simp [ltB]; omega
            have HLB := Lib.hid hlb
            have LS : Hid (∀ W, Calls Try.prog 74 #[.int .i64 (a : Int), .int .i64 (x : Int)] W fun e w' => e = .returned (.bool true) ∧ w' = W) := fun W => by
              have := less_any (a : Int) (x : Int) W
              rw [HLB.out] at this; exact this
            have HD2 : Hid (∀ y ∈ (srtK us i).drop j, nx us i < y) := drop_more us i j hlt (by omega) hd.out (by rw [← HA.out, ← HX.out]; exact hax)
            have s1 := HO.out.set (j + 1) (x : Int) (HRL.out _).symm
            have s2 := s1.1.set j (a : Int) (by rw [List.length_set, HRL.out])
            have y0 := s1.1.cellAt j (by rw [List.length_set, HRL.out]; omega)
            generalize ((iz (rowAt us i (j + 1))).set (j + 1) (x : Int)).getD j 0 = q at y0
            rw [iz_set, iz_set, HX.out, HA.out, rowAt_swap us i j hlt (by omega), ← HX.out, ← HA.out] at s2
            have HS2 : Hid (Own ((wr.setCell ⟨g, j + 1, none⟩ (.int .i64 (x : Int))).setCell ⟨g, j, none⟩ (.int .i64 (a : Int))) lo hi (.slice (some ⟨g, 0, none⟩) us.length cap) (iz (rowAt us i j)) ∧ Turned lo hi w ((wr.setCell ⟨g, j + 1, none⟩ (.int .i64 (x : Int))).setCell ⟨g, j, none⟩ (.int .i64 (a : Int)))) :=
              ⟨s2.1, turned_trans2 (turned_trans2 HT.out s1.2) s2.2⟩
            clear hlb s1 s2 HO HT
            go_wp2
            go_quiet ((go_at_call 74; exact Calls.quiet_of_same (LS.out _)))
            go_wp2
            go_region
            go_wp2
            go_roundg j
            case measure => have := HG.out; omega
            case rel => exact ⟨j, by omega, rfl, by go_num, HS2.out.1.drewN _, HD2, turned_drewN HS2.out.2 _⟩
          · have hlb : ltB (a : Int) (x : Int) = false := by simp [ltB]; omega
            have HLB := Lib.hid hlb
            have LS : Hid (∀ W, Calls Try.prog 74 #[.int .i64 (a : Int), .int .i64 (x : Int)] W fun e w' => e = .returned (.bool false) ∧ w' = W) := fun W => by
              have := less_any (a : Int) (x : Int) W
              rw [HLB.out] at this; exact this
            have HE := Lib.hid (rowAt_end us i (j + 1) hlt hj hd.out (.inr (by rw [Nat.add_sub_cancel, ← HA.out, ← HX.out]; omega)))
            clear hlb
            go_wp2
            go_quiet ((go_at_call 74; exact Calls.quiet_of_same (LS.out _)))
            go_wp2
            go_roundg (us.length - (i + 1))
            case measure => omega
            case rel => exact ⟨i + 1, by omega, by omega, rfl, by go_num, by rw [← HE.out]; exact HO.out.drewN _, turned_drewN HT.out _⟩
    · have hi : i = us.length := by omega
      subst hi
      have HE := Lib.hid (srtK_all us)
      have HF : Hid (Own wo lo hi (.slice (some ⟨g, 0, none⟩) us.length cap) (iz (srtN [] us))) := by
        have := HO.out
        rw [List.drop_length, List.append_nil, HE.out] at this
        exact this
      clear HO
      go_wp2
      go_end0
      exact ⟨rfl, HF.out, HT.out⟩
set_option maxHeartbeats 800000 in
set_option maxRecDepth 100000 in
theorem pdq_any (lo hi g cap : Nat) (us : List Nat) (q : Int) (w : World) (h : Own w lo hi (.slice (some ⟨g, 0, none⟩) us.length cap) (iz us)) (h0 : 0 < us.length) (h7 : us.length ≤ 7) :
    Calls Try.prog 63 #[.slice (some ⟨g, 0, none⟩) us.length cap, .int .i64 0, .int .i64 us.length, .int .i64 q] w fun e w' => e = .returned (.tuple #[]) ∧ Own w' lo hi (.slice (some ⟨g, 0, none⟩) us.length cap) (iz (srtN [] us)) ∧ Turned lo hi w w' := by
  have hl : (us.length : Int) ≤ 12 := by omega
  go_enter Try.func63, Try.ntmps63
  go_wp2
  refine wp_loop_rounds 1 ?_
  rw [rounds_succ]
  go_wp2_with fail
  refine (insertion_any lo hi g cap us _ h h0 h7).mono ?_
  rintro e w' ⟨rfl, o1, t1⟩
  have HO := Lib.hid o1
  have HT := Lib.hid t1
  clear o1 t1 h
  go_wp2
  exact bodyPost_ret (v := .tuple #[]) (by simp [results, Try.results63, go_sem]) rfl ⟨rfl, HO.out, HT.out⟩

set_option maxHeartbeats 800000 in
set_option maxRecDepth 100000 in
theorem sort_any (lo hi g cap : Nat) (us : List Nat) (w : World) (h : Own w lo hi (.slice (some ⟨g, 0, none⟩) us.length cap) (iz us)) (h0 : 0 < us.length) (h7 : us.length ≤ 7) :
    Calls Try.prog 53 #[.slice (some ⟨g, 0, none⟩) us.length cap] w fun e w' => e = .returned (.tuple #[]) ∧ Own w' lo hi (.slice (some ⟨g, 0, none⟩) us.length cap) (iz (srtN [] us)) ∧ Turned lo hi w w' := by
  go_enter Try.func53, Try.ntmps53
  go_wp2_with fail
  refine (bitsLen_any us.length _ h7).mono ?_
  rintro e w' ⟨⟨q, rfl⟩, rfl⟩
  go_wp2_with fail
  refine (pdq_any lo hi g cap us q _ h h0 h7).mono ?_
  rintro e w' ⟨rfl, o1, t1⟩
  have HO := Lib.hid o1
  have HT := Lib.hid t1
  clear o1 t1 h
  go_wp2
  go_end0
  exact ⟨rfl, HO.out, HT.out⟩
end Go.Proofs.Ytdpijiccolbljaa

/- The one way found out, of the program and of the reference. -/
import Derived.Test.YtajelgheccfcoaaWaysI
import Derived.Test.YtajelgheccfcoaaWaysS
namespace Go.Proofs.Ytajelgheccfcoaa
open Go.RowKit

def foundI (ws : List Int) : Int × Bool := if ws.length = 1 then (ws.getD 0 0, true) else (-1, false)

set_option maxRecDepth 100000 in
theorem implFoundOut_any (p : Int) (v : Value) (ps : List Sy) (w : World) (hl : Brief ps) (h : RdS w v ps) :
    Calls Try.prog 15 #[.int .i64 p, v] w fun e w' => e = .returned (.tuple #[.int .i64 (foundI (waysI p ps)).1, .bool (foundI (waysI p ps)).2]) ∧ Below w.heap.size w w' := by
  have T := Lib.hid (implWaysOf_any p v ps w hl h)
  obtain ⟨a, cp, rfl, -, -, -⟩ := h
  clear hl
  generalize waysI p ps = ws at *
  go_enter Try.func15, Try.ntmps15
  go_wp2_with fail
  with_reducible refine T.out.mono ?_
  rintro e w1 ⟨v1, rfl, ho, hb⟩
  obtain ⟨a1, c1, rfl, l1, m1, r1⟩ := ho.rd
  have HB := Lib.hid hb
  have HF : Hid (foundI ws = if ws.length = 1 then (ws.getD 0 0, true) else (-1, false)) := rfl
  clear ho hb
  by_cases h1 : ws.length = 1
  · rw [if_pos h1] at HF
    obtain ⟨g, off, z, rfl, hg, x1, HZ⟩ := rd_at r1 0 (by omega)
    have HF2 : Hid (foundI ws = (z, true)) := by unfold Hid; rw [HF.out, HZ.out]
    rw [Nat.add_zero] at x1
    clear r1
    go_wp2
    refine bodyPost_ret (v := .tuple #[.int .i64 z, .bool true]) (by simp [results, Try.results15, go_sem]) rfl ?_
    exact ⟨by rw [HF2.out], HB.out⟩
  · rw [if_neg h1] at HF
    have h1' : ((ws.length : Int) == 1) = false := by rw [beq_eq_false_iff_ne]; omega
    have h1'' : ((ws.length : Int) != 1) = true := by rw [bne_iff_ne]; omega
    clear r1
    go_wp2
    refine bodyPost_ret (v := .tuple #[.int .i64 (-1), .bool false]) (by simp [results, Try.results15, go_sem]) rfl ?_
    exact ⟨by rw [HF.out], HB.out⟩

set_option maxRecDepth 100000 in
theorem specFoundOut_any (p : Int) (v : Value) (ps : List Sy) (w : World) (hl : Brief ps) (h : RdS w v ps) :
    Calls Try.prog 13 #[.int .i64 p, v] w fun e w' => e = .returned (.tuple #[.int .i64 (foundI (waysI p ps)).1, .bool (foundI (waysI p ps)).2]) ∧ Below w.heap.size w w' := by
  have T := Lib.hid (specWaysOf_any p v ps w hl h)
  obtain ⟨a, cp, rfl, -, -, -⟩ := h
  clear hl
  generalize waysI p ps = ws at *
  go_enter Try.func13, Try.ntmps13
  go_wp2_with fail
  with_reducible refine T.out.mono ?_
  rintro e w1 ⟨v1, rfl, ho, hb⟩
  obtain ⟨a1, c1, rfl, l1, m1, r1⟩ := ho.rd
  have HB := Lib.hid hb
  have HF : Hid (foundI ws = if ws.length = 1 then (ws.getD 0 0, true) else (-1, false)) := rfl
  clear ho hb
  by_cases h1 : ws.length = 1
  · rw [if_pos h1] at HF
    obtain ⟨g, off, z, rfl, hg, x1, HZ⟩ := rd_at r1 0 (by omega)
    have HF2 : Hid (foundI ws = (z, true)) := by unfold Hid; rw [HF.out, HZ.out]
    rw [Nat.add_zero] at x1
    clear r1
    go_wp2
    refine bodyPost_ret (v := .tuple #[.int .i64 z, .bool true]) (by simp [results, Try.results13, go_sem]) rfl ?_
    exact ⟨by rw [HF2.out], HB.out⟩
  · rw [if_neg h1] at HF
    have h1' : ((ws.length : Int) == 1) = false := by rw [beq_eq_false_iff_ne]; omega
    have h1'' : ((ws.length : Int) != 1) = true := by rw [bne_iff_ne]; omega
    clear r1
    go_wp2
    refine bodyPost_ret (v := .tuple #[.int .i64 (-1), .bool false]) (by simp [results, Try.results13, go_sem]) rfl ?_
    exact ⟨by rw [HF.out], HB.out⟩
end Go.Proofs.Ytajelgheccfcoaa

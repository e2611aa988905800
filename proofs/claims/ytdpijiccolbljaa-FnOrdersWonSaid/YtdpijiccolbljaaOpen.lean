/- opened: the walk. -/
import Derived.Test.YtdpijiccolbljaaOpenP
namespace Go.Proofs.Ytdpijiccolbljaa
open Go.RowKit

set_option maxHeartbeats 800000 in
set_option maxRecDepth 100000 in
theorem opened_any (v : Value) (ns : List Nat) (p : Nat) (w : World) (h : Rd w v (iz ns)) (hP : Perm7 ns) (hp : p < ns.length) :
    Calls Try.prog 51 #[v, .int .i64 p] w fun e w' => ∃ v', e = .returned v' ∧ Own w' w.heap.size w'.heap.size v' (iz (orb ns p)) ∧ Below w.heap.size w w' := by
  obtain ⟨i0, hi, hz0, hz1, hz2⟩ := info_parts infoInt
  obtain ⟨a1, c1, rfl, l1, m1⟩ := rdN_out h
  obtain ⟨g1, o1, rfl, hg1, x1⟩ := rdN_at h p hp
  have HH := Lib.hid h
  have hn7 := hP.hi
  have HL : Hid (∀ a, a < ns.length → nx ns a < ns.length) := fun a ha => hP.nx_lt ha
  have hL := HL.out p hp
  have HST := Lib.hid (opSt_start hP hp)
  obtain ⟨W, hW⟩ : ∃ W : World, W = w.alloc (.cells #[.int .i64 (p : Int)] 3) := ⟨_, rfl⟩
  have hbW : Below w.heap.size w W := by rw [hW]; exact (Below.refl _ _).alloc (Nat.le_refl _) _
  have hsW : W.heap.size = w.heap.size + 1 := by rw [hW]; simp
  have hoW : W.ownsRow w.heap.size 3 1 (.slice (some ⟨w.heap.size, 0, none⟩) 1 1) (iz ([] ++ [p])).length ((iz ([] ++ [p])).map (Value.int .i64)) := by rw [hW]; exact own_one w p
  have y1 := (hbW.cell (p := ⟨g1, o1 + p, none⟩) hg1).trans x1
  rw [hW] at y1
  have HW := Lib.hid hW; have HB := Lib.hid hbW; have HO := Lib.hid hoW
  have hs1 : w.heap.size ≤ W.heap.size := by omega
  clear hW hbW hoW h x1
  go_enter Try.func51, Try.ntmps51
  go_wp2_with fail
  rw [← HW.out]
  clear y1
  obtain ⟨z, hz⟩ : ∃ z, z = nx ns p := ⟨_, rfl⟩
  go_loopg [5, 6] 6 (fun f v i wr => ∃ (a : Nat) (pre : List Nat), OpSt ns p f pre a ∧ i = .int .i64 (nx ns a : Nat) ∧ wr.ownsRow w.heap.size 3 1 v (iz (pre ++ [a])).length ((iz (pre ++ [a])).map (Value.int .i64)) ∧ Below w.heap.size w wr ∧ w.heap.size ≤ wr.heap.size)
  case atStart => exact ⟨p, [], HST.out, rfl, HO.out, HB.out, hs1⟩
  case round =>
    obtain ⟨a, pre, hst, rfl, ho, hb, hs⟩ := hrel
    have hpl := opSt_len hst
    have han := hst.1
    have hnl := HL.out a han
    have HS := Lib.hid hst
    clear hst
    by_cases he : nx ns a = p
    · have HE := Lib.hid (opSt_end HS.out he)
      have hq : (((nx ns a : Nat) : Int) == (p : Int)) = true := by rw [he]; simp
      have hq2 : (((nx ns a : Nat) : Int) != (p : Int)) = false := by rw [he]; simp
      clear he hz
      generalize nx ns a = b at *
      go_wp2
      go_ret
      exact ⟨_, rfl, by rw [HE.out]; exact Own.new ho (Nat.le_refl _), hb⟩
    · obtain ⟨f, rfl, hst2⟩ := opSt_next HS.out he
      have HS2 := Lib.hid hst2
      have hq : (((nx ns a : Nat) : Int) == (p : Int)) = false := by rw [beq_eq_false_iff_ne]; omega
      have hq2 : (((nx ns a : Nat) : Int) != (p : Int)) = true := by rw [bne_iff_ne]; omega
      obtain ⟨b, hbb⟩ : ∃ b, b = nx ns a := ⟨_, rfl⟩
      rw [← hbb] at hq hq2 hnl ⊢
      have HBB := Lib.hid hbb
      obtain ⟨g2, o2, e2, hg2, x2⟩ := rdN_at HH.out b hnl
      injection e2 with e2
      injection e2 with e2 e3
      subst e2 e3
      have HB3 := Lib.hid hb
      have hl2 : (iz (pre ++ [a])).length ≤ 7 := by rw [length_iz]; simp; omega
      clear he hbb hst2 HST hz HO
      go_wp2_with (first | (at_builtin; go_loud (refine wpList_append_own _ rfl _ _ 22 rfl w.heap.size 3 i0 (.int .i64 0) 1 8 Try.underlying22 hi hz0 hz1 hz2 rfl (by decide) _ _ _ rfl (ho.alloc _) ⟨wr.heap.size, 0, none⟩ 1 1 [.int .i64 (b : Int)] rfl rfl (one_new _ _ _) ?c2 ?c3 ?c4 ?c5 ?_)) | go_in)
      case c2 => first | exact one_cell _ _ | rfl
      case c3 => unfold maxLen; omega
      case c4 => omega
      case c5 => first | omega | (simp; omega)
      intro v' w1 hown' hgr _
      have hrel := app_rel ho hb (Nat.le_refl _) hs hown' hgr
      have HR := Lib.hid hrel
      have y2 := (HR.out.2.1.cell (p := ⟨g1, o1 + b, none⟩) hg1).trans x2
      clear hrel hown' hgr ho hb hz0 hz1 hz2 hi x2
      go_wp2
      go_roundg f
      case measure => omega
      case rel => exact ⟨b, pre ++ [a], by rw [HBB.out]; exact HS2.out, rfl, snoc_iz HR.out.1, HR.out.2.1, HR.out.2.2⟩
end Go.Proofs.Ytdpijiccolbljaa

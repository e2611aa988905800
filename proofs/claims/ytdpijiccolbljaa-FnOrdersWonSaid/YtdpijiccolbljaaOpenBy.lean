/- OpenedBy, of the program and of the reference: the walks. -/
import Derived.Test.YtdpijiccolbljaaBoxS
namespace Go.Proofs.Ytdpijiccolbljaa
open Go.RowKit

def nz (zs : List Int) : List Nat := zs.map Int.toNat
theorem nz_iz (ns : List Nat) : nz (iz ns) = ns := by simp [nz, iz, Function.comp_def]
/-- What OpenedBy returns. -/
def openB (zs : List Int) (p : Int) : Bool := boxB zs && inB 0 ((zs.length : Int) - 1) p
def openI (zs : List Int) (p : Int) : List Int := bif openB zs p then iz (orb (nz zs) p.toNat) else []
theorem openB_out {zs : List Int} {p : Int} (h : openB zs p = true) : ∃ (ns : List Nat) (k : Nat), zs = iz ns ∧ p = k ∧ Perm7 ns ∧ k < ns.length ∧ openI zs p = iz (orb ns k) := by
  have h0 := h
  unfold openB at h
  rw [Bool.and_eq_true] at h
  obtain ⟨ns, rfl, hP⟩ := boxB_perm h.1
  have h2 := inB_in h.2
  rw [length_iz] at h2
  obtain ⟨k, rfl⟩ := Int.eq_ofNat_of_zero_le h2.1
  refine ⟨ns, k, rfl, rfl, hP, by omega, ?_⟩
  unfold openI
  rw [h0, cond_true, nz_iz, Int.toNat_natCast]
theorem openI_no {zs : List Int} {p : Int} (h : openB zs p = false) : openI zs p = [] := by unfold openI; rw [h]; rfl
theorem openI_len (zs : List Int) (p : Int) : (openI zs p).length ≤ 7 := by
  unfold openI
  cases openB zs p
  · simp
  · rw [cond_true, length_iz]; exact length_orb _ _
theorem own_nil (w : World) (lo hi : Nat) : Own w lo hi (.slice none 0 0) [] := ⟨World.ownsRow_nil _ _ _ _, fun k hk => (by cases hk)⟩

set_option maxHeartbeats 800000 in
set_option maxRecDepth 100000 in
theorem implOpenedBy_any (v : Value) (zs : List Int) (p : Int) (w : World) (h : Rd w v zs) :
    Calls Try.prog 28 #[v, .int .i64 p] w fun e w' => ∃ v', e = .returned v' ∧ Own w' w.heap.size w'.heap.size v' (openI zs p) ∧ Below w.heap.size w w' := by
  have hR := h
  obtain ⟨a1, c1, rfl, l1, m1, -⟩ := h
  go_enter Try.func28, Try.ntmps28
  go_wp2_with fail
  refine (implBoxesOk_any _ zs _ hR).mono ?_
  rintro e w' ⟨rfl, rfl⟩
  rcases Bool.eq_false_or_eq_true (boxB zs) with hb | hb
  rotate_left
  · rw [hb]
    have HF : Hid (openI zs p = []) := openI_no (by unfold openB; rw [hb]; rfl)
    clear hb
    go_wp2
    go_ret
    exact ⟨_, rfl, by rw [HF.out]; exact own_nil _ _ _, Below.refl _ _⟩
  rw [hb]
  have hb7 := (boxB_out hb).2.1
  have hb1 := (boxB_out hb).1
  go_wp2_with fail
  refine (in_any _ _ _ _).mono ?_
  rintro e w' ⟨rfl, rfl⟩
  rcases Bool.eq_false_or_eq_true (inB 0 ((zs.length : Int) - 1) p) with hp | hp
  rotate_left
  · rw [hp]
    have HF : Hid (openI zs p = []) := openI_no (by unfold openB; rw [hp]; simp)
    clear hb hp
    go_wp2
    go_ret
    exact ⟨_, rfl, by rw [HF.out]; exact own_nil _ _ _, Below.refl _ _⟩
  rw [hp]
  obtain ⟨ns, k, rfl, rfl, hP, hk, he⟩ := openB_out (zs := zs) (p := p) (by unfold openB; rw [hb, hp]; rfl)
  have HE := Lib.hid he
  clear hb hp he
  go_wp2_with fail
  refine (opened_any _ ns k _ hR hP hk).mono ?_
  rintro e w1 ⟨v1, rfl, o1, b1⟩
  rw [← HE.out] at o1
  have HO := Lib.hid (And.intro o1 b1)
  clear o1 b1
  go_wp2
  go_ret
  exact ⟨_, rfl, HO.out.1, HO.out.2⟩

set_option maxHeartbeats 1600000 in
set_option maxRecDepth 100000 in
theorem specOpenedBy_any (v : Value) (zs : List Int) (p : Int) (w : World) (h : Rd w v zs) :
    Calls Try.prog 27 #[v, .int .i64 p] w fun e w' => ∃ v', e = .returned v' ∧ Own w' w.heap.size w'.heap.size v' (openI zs p) ∧ Below w.heap.size w w' := by
  obtain ⟨i0, hi, hz0, hz1, hz2⟩ := info_parts infoInt
  obtain ⟨W, hW⟩ : ∃ W : World, W = w.alloc (.cells #[] 3) := ⟨_, rfl⟩
  have hbW : Below w.heap.size w W := by rw [hW]; exact (Below.refl _ _).alloc (Nat.le_refl _) _
  have hsW : W.heap.size = w.heap.size + 1 := by rw [hW]; simp
  have hoW : Own W w.heap.size W.heap.size (.slice (some ⟨w.heap.size, 0, none⟩) 0 0) (iz []) := by rw [hW]; exact Own.new (own_none w) (Nat.le_refl _)
  have hR := h.below hbW
  have HH := Lib.hid h
  obtain ⟨a1, c1, rfl, l1, m1, -⟩ := h
  have HW := Lib.hid hW; have HB := Lib.hid hbW; have HO := Lib.hid hoW
  have hs1 : w.heap.size ≤ W.heap.size := by omega
  clear hW hbW hoW
  go_enter Try.func27, Try.ntmps27
  go_wp2_with fail
  rw [← HW.out]
  refine (specBoxesOk_any _ zs _ hR).mono ?_
  rintro e w1 ⟨rfl, b1⟩
  have hR1 := hR.below b1
  have HB1 := Lib.hid (HB.out.trans (b1.mono hs1))
  have HO1 := Lib.hid (HO.out.below b1 (Nat.le_refl _))
  have hs2 : W.heap.size ≤ w1.heap.size := b1.size
  clear b1 hR
  rcases Bool.eq_false_or_eq_true (boxB zs) with hb | hb
  rotate_left
  · rw [hb]
    have HF : Hid (openI zs p = []) := openI_no (by unfold openB; rw [hb]; rfl)
    clear hb
    go_wp2
    go_ret
    exact ⟨_, rfl, by rw [HF.out]; exact HO1.out.wide (Nat.le_refl _) hs2, HB1.out⟩
  rw [hb]
  have hb7 := (boxB_out hb).2.1
  have hb1 := (boxB_out hb).1
  go_wp2_with fail
  refine (l1In_any _ _ _ _).mono ?_
  rintro e w' ⟨rfl, rfl⟩
  rcases Bool.eq_false_or_eq_true (inB 0 ((zs.length : Int) - 1) p) with hp | hp
  rotate_left
  · rw [hp]
    have HF : Hid (openI zs p = []) := openI_no (by unfold openB; rw [hp]; simp)
    clear hb hp
    go_wp2
    go_ret
    exact ⟨_, rfl, by rw [HF.out]; exact HO1.out.wide (Nat.le_refl _) hs2, HB1.out⟩
  rw [hp]
  obtain ⟨ns, k, rfl, rfl, hP, hk, he⟩ := openB_out (zs := zs) (p := p) (by unfold openB; rw [hb, hp]; rfl)
  have HE := Lib.hid he
  have HL : Hid (∀ a, a < ns.length → nx ns a < ns.length) := fun a ha => hP.nx_lt ha
  have HST := Lib.hid (opSt_start hP hk)
  have hn7 := hP.hi
  obtain ⟨a2, c2, e2, l2, m2⟩ := rdN_out hR1
  rw [length_iz] at e2 l1 ⊢
  clear hb hp he e2 hR1 hb7 hb1
  go_wp2_with fail
  go_loopg [5, 6] 6 (fun f v i wr => ∃ (a : Nat) (pre : List Nat), OpSt ns k f pre a ∧ i = .int .i64 (a : Nat) ∧ wr.ownsRow w.heap.size 3 1 v (iz pre).length ((iz pre).map (Value.int .i64)) ∧ Below w.heap.size w wr ∧ w.heap.size ≤ wr.heap.size)
  case atStart => exact ⟨k, [], HST.out, rfl, HO1.out.1, HB1.out, by omega⟩
  case round =>
    obtain ⟨a, pre, hst, rfl, ho, hb, hs⟩ := hrel
    have hpl := opSt_len hst
    have han := hst.1
    have hnl := HL.out a han
    have HS := Lib.hid hst
    clear hst
    obtain ⟨g1, o1, rfl, hg1, x1⟩ := rdN_at HH.out a han
    obtain ⟨b, hbb⟩ : ∃ b, b = nx ns a := ⟨_, rfl⟩
    rw [← hbb] at hnl x1
    have HBB := Lib.hid hbb
    clear hbb
    have hl2 : (iz pre).length ≤ 6 := by rw [length_iz]; omega
    go_wp2_with (first | (at_builtin; go_loud (refine wpList_append_own _ rfl _ _ 22 rfl w.heap.size 3 i0 (.int .i64 0) 1 8 Try.underlying22 hi hz0 hz1 hz2 rfl (by decide) _ _ _ rfl (ho.alloc _) ⟨wr.heap.size, 0, none⟩ 1 1 [.int .i64 (a : Int)] rfl rfl (one_new _ _ _) ?c2 ?c3 ?c4 ?c5 ?_)) | go_in)
    case c2 => first | exact one_cell _ _ | rfl
    case c3 => unfold maxLen; omega
    case c4 => omega
    case c5 => first | omega | (simp; omega)
    intro v' w3 hown' hgr _
    have hrel := app_rel ho hb (Nat.le_refl _) hs hown' hgr
    have HR := Lib.hid hrel
    have y1 := (HR.out.2.1.cell (p := ⟨g1, o1 + a, none⟩) hg1).trans x1
    clear hrel hown' hgr ho hb hz0 hz1 hz2 hi x1
    by_cases he : b = k
    · have HE2 := Lib.hid (opSt_end HS.out (by rw [← HBB.out]; exact he))
      have hq : ((b : Int) == (k : Int)) = true := by rw [he]; simp
      clear he
      go_wp2
      go_ret
      exact ⟨_, rfl, by rw [HE.out, HE2.out]; exact Own.new (snoc_iz HR.out.1) (Nat.le_refl _), HR.out.2.1⟩
    · obtain ⟨f, rfl, hst2⟩ := opSt_next HS.out (by rw [← HBB.out]; exact he)
      have HS2 := Lib.hid hst2
      have hq : ((b : Int) == (k : Int)) = false := by rw [beq_eq_false_iff_ne]; omega
      clear he hst2
      go_wp2
      go_roundg f
      case measure => omega
      case rel => exact ⟨b, pre ++ [a], by rw [HBB.out]; exact HS2.out, rfl, snoc_iz HR.out.1, HR.out.2.1, HR.out.2.2⟩
end Go.Proofs.Ytdpijiccolbljaa

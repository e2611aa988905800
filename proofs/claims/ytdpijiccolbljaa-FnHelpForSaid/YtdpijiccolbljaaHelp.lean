/- HelpFor of the program: the walk. -/
import Derived.Test.YtdpijiccolbljaaHelpP
namespace Go.Proofs.Ytdpijiccolbljaa
open Go.RowKit

set_option maxHeartbeats 1600000 in
set_option maxRecDepth 100000 in
theorem implHelpFor_any (v : Value) (zs : List Int) (w : World) (h : Rd w v zs) :
    Calls Try.prog 22 #[v] w fun e w' => (∃ v', e = .returned (.tuple #[v', .bool (boxB zs)]) ∧ Own w' w.heap.size w'.heap.size v' (helpI zs)) ∧ Below w.heap.size w w' := by
  have hR := h
  have HH := Lib.hid h
  obtain ⟨a1, c1, rfl, l1, m1, -⟩ := h
  go_enter Try.func22, Try.ntmps22
  go_wp2_with fail
  with_reducible refine (implBoxesOk_any _ zs _ hR).mono ?_
  rintro e w' ⟨rfl, rfl⟩
  rcases Bool.eq_false_or_eq_true (boxB zs) with hb | hb
  rotate_left
  · rw [hb]
    have HF := Lib.hid (helpI_no hb)
    have HBX := Lib.hid hb
    clear hb
    go_wp2
    go_ret2
    exact ⟨⟨_, by rw [HBX.out]; rfl, by rw [HF.out]; exact own_nil _ _ _⟩, Below.refl _ _⟩
  rw [hb]
  obtain ⟨ns, rfl, hP⟩ := boxB_perm hb
  have HBX := Lib.hid hb
  have HF := Lib.hid (helpI_iz hP)
  have h7 := hP.hi
  obtain ⟨w, hw⟩ : ∃ w : World, w = w' := ⟨_, rfl⟩
  subst hw
  obtain ⟨W, hW⟩ : ∃ W : World, W = w.alloc (.cells #[] 3) := ⟨_, rfl⟩
  have hbW : Below w.heap.size w W := by rw [hW]; exact (Below.refl _ _).alloc (Nat.le_refl _) _
  have hsW : W.heap.size = w.heap.size + 1 := by rw [hW]; simp
  have hoW : Own W w.heap.size W.heap.size (.slice (some ⟨w.heap.size, 0, none⟩) 0 0) (iz (allH ns 0).1) := by rw [hW]; exact Own.new (own_none w) (Nat.le_refl _)
  have HW := Lib.hid hW; have HB := Lib.hid hbW; have HO := Lib.hid hoW
  have hs1 : w.heap.size ≤ W.heap.size := by omega
  rw [length_iz] at HH l1 ⊢
  clear hW hbW hoW hb hR
  go_wp2_with fail
  rw [← HW.out]
  go_loopg [4, 5, 15] ns.length (fun g v m i wr => ∃ a : Nat, a ≤ ns.length ∧ g = ns.length - a ∧ i = .int .i64 a ∧ m = .int .i64 ((allH ns a).2 : Nat) ∧ Own wr w.heap.size wr.heap.size v (iz (allH ns a).1) ∧ Below w.heap.size w wr ∧ w.heap.size ≤ wr.heap.size)
  case atStart => exact ⟨0, Nat.zero_le _, rfl, rfl, rfl, HO.out, HB.out, hs1⟩
  case round =>
    clear HO HB
    obtain ⟨wo, rfl⟩ : ∃ wo : World, wo = wr := ⟨_, rfl⟩
    obtain ⟨a, ha, rfl, rfl, rfl, ho, hb, hs⟩ := hrel
    by_cases hlt : a < ns.length
    · have HS0 := Lib.hid (And.intro ho (And.intro hb hs))
      have HNX : Hid (allH ns (a + 1) = rowH ns a (ns.length - a) (allH ns a)) := rfl
      clear ho hb
      go_wp2
      go_loopg [4, 5, 7] (ns.length - a) (fun g2 v m i wr => ∃ j : Nat, a + j ≤ ns.length ∧ g2 = ns.length - a - j ∧ i = .int .i64 ((a + j : Nat) : Int) ∧ m = .int .i64 ((rowH ns a j (allH ns a)).2 : Nat) ∧ Own wr w.heap.size wr.heap.size v (iz (rowH ns a j (allH ns a)).1) ∧ Below w.heap.size w wr ∧ w.heap.size ≤ wr.heap.size)
      case atStart => exact ⟨0, by omega, rfl, rfl, rfl, HS0.out.1, HS0.out.2.1, HS0.out.2.2⟩
      case round =>
        clear HS0
        obtain ⟨j, hj, hg, rfl, rfl, ho, hb, hs⟩ := hrel
        have HG := Lib.hid hg
        clear hg
        obtain ⟨b, hbj⟩ : ∃ b, b = a + j := ⟨_, rfl⟩
        rw [← hbj]
        have HBJ := Lib.hid hbj
        have HSTEP : Hid (rowH ns a (j + 1) (allH ns a) = stepH ns a b (rowH ns a j (allH ns a))) := by rw [hbj]; rfl
        clear hbj
        by_cases hbl : b < ns.length
        · have hRr := HH.out.below hb
          have HO := Lib.hid ho
          have HB := Lib.hid hb
          have hX := exch_perm hP hlt hbl
          have hlb := long_bd hX
          have HX := Lib.hid (exchI_iz hP hlt hbl)
          obtain ⟨s, hs0⟩ : ∃ s, s = rowH ns a j (allH ns a) := ⟨_, rfl⟩
          rw [← hs0] at HO HSTEP ⊢
          have HS0 := Lib.hid hs0
          obtain ⟨m, hm⟩ : ∃ m, m = s.2 := ⟨_, rfl⟩
          rw [← hm]
          have HM := Lib.hid hm
          have HNEW : Hid (stepH ns a b s = if long (exch ns a b) < m then ([a, b], long (exch ns a b)) else s) := by rw [hm]; rfl
          clear ho hb hs0 hm
          go_wp2_with fail
          with_reducible refine (implExchanged_any _ (iz ns) _ _ _ hRr).mono ?_
          rintro e w2 ⟨v2, rfl, o2, b2⟩
          rw [HX.out] at o2
          have r2 := o2.rd
          have hs2 := b2.size
          have HB2 := Lib.hid (HB.out.trans (b2.mono hs))
          have HO2 := Lib.hid (HO.out.below b2 (Nat.le_refl _))
          clear o2 b2 HO HB hRr
          go_wp2_with fail
          with_reducible refine (longest_any _ (exch ns a b) _ r2 hX).mono ?_
          rintro e w3 ⟨rfl, b3⟩
          have hs3 := b3.size
          have HB3 := Lib.hid (HB2.out.trans (b3.mono (by omega)))
          have HO3 := Lib.hid ((HO2.out.below b3 hs2).wide (Nat.le_refl _) (Nat.le_trans hs2 hs3))
          have hs5 : w.heap.size ≤ w3.heap.size := by omega
          generalize long (exch ns a b) = L at *
          clear b3 r2 HO2 HB2
          by_cases hlm : L < m
          · have hlm' : (L : Int) < m := by omega
            have HNEW2 : Hid (rowH ns a (j + 1) (allH ns a) = ([a, b], L)) := by unfold Hid; rw [HSTEP.out, HNEW.out, if_pos hlm]
            have HL : Hid (Own (w3.alloc (.cells #[.int .i64 (a : Int), .int .i64 (b : Int)] 3)) w.heap.size (w3.alloc (.cells #[.int .i64 (a : Int), .int .i64 (b : Int)] 3)).heap.size (.slice (some ⟨w3.heap.size, 0, none⟩) 2 2) (iz [a, b]) ∧ Below w.heap.size w (w3.alloc (.cells #[.int .i64 (a : Int), .int .i64 (b : Int)] 3))) :=
              ⟨(Own.new (own_two w3 a b) (Nat.le_refl _)).wide hs5 (Nat.le_refl _), HB3.out.alloc hs5 _⟩
            clear hlm HO3
            go_wp2
            go_roundg (ns.length - a - (j + 1))
            case measure => have := HG.out; have := HBJ.out; omega
            case rel => exact ⟨j + 1, by have := HBJ.out; omega, rfl, by have := HBJ.out; congr 1; omega, by rw [HNEW2.out], by rw [HNEW2.out]; exact HL.out.1, HL.out.2, by simp; omega⟩
          · have hlm' : ¬ (L : Int) < m := by omega
            have HNEW2 : Hid (rowH ns a (j + 1) (allH ns a) = s) := by unfold Hid; rw [HSTEP.out, HNEW.out, if_neg hlm]
            clear hlm
            go_wp2
            go_roundg (ns.length - a - (j + 1))
            case measure => have := HG.out; have := HBJ.out; omega
            case rel => exact ⟨j + 1, by have := HBJ.out; omega, rfl, by have := HBJ.out; congr 1; omega, by rw [HNEW2.out, HM.out], by rw [HNEW2.out]; exact HO3.out, HB3.out, hs5⟩
        · have hj' : j = ns.length - a := by have := HBJ.out; omega
          have HS1 : Hid (rowH ns a j (allH ns a) = allH ns (a + 1)) := by rw [hj']; exact HNX.out.symm
          have HO := Lib.hid ho
          have HB := Lib.hid hb
          clear hj' ho hb
          go_wp2
          go_roundg (ns.length - (a + 1))
          case measure => omega
          case rel => exact ⟨a + 1, by omega, rfl, by go_num, by rw [HS1.out], by rw [← HS1.out]; exact HO.out, HB.out, hs⟩
    · have ha' : a = ns.length := by omega
      subst ha'
      have HO := Lib.hid ho
      have HB := Lib.hid hb
      clear ho hb
      go_wp2
      go_ret2
      exact ⟨⟨_, by rw [HBX.out]; rfl, by rw [HF.out]; exact HO.out⟩, HB.out⟩
end Go.Proofs.Ytdpijiccolbljaa

/- HelpFor of the reference: the walk. -/
import Derived.Test.YtdpijiccolbljaaHelpP
import Derived.Test.YtdpijiccolbljaaCircS
namespace Go.Proofs.Ytdpijiccolbljaa
open Go.RowKit

theorem lastN_nx2 : ∀ l : List Nat, lastN l = nx l (l.length - 1)
  | [] => rfl
  | [_] => rfl
  | _ :: b :: l => by
    show lastN (b :: l) = _
    rw [lastN_nx2 (b :: l)]
    rfl
/-- The least so far as the reference has it: -1 if there is none. -/
def lstI (m : Nat) : Int := if m = 8 then -1 else (m : Int)
theorem invH_bd {ns : List Nat} (h : Perm7 ns) {s : List Nat × Nat} (hs : InvH ns s) : s.2 ≤ 8 := by
  rcases hs with rfl | ⟨x, y, hxy, hy, rfl⟩
  · exact Nat.le_refl _
  · exact Nat.le_trans (long_bd (exch_perm h (a := x) (b := y) (by omega) hy)) (by omega)

set_option maxHeartbeats 1600000 in
set_option maxRecDepth 100000 in
theorem specHelpFor_any (v : Value) (zs : List Int) (w : World) (h : Rd w v zs) :
    Calls Try.prog 21 #[v] w fun e w' => (∃ v', e = .returned (.tuple #[v', .bool (boxB zs)]) ∧ Own w' w.heap.size w'.heap.size v' (helpI zs)) ∧ Below w.heap.size w w' := by
  have HH := Lib.hid h
  obtain ⟨a1, c1, rfl, l1, m1, -⟩ := h
  obtain ⟨W, hW⟩ : ∃ W : World, W = w.alloc (.cells #[] 3) := ⟨_, rfl⟩
  have hbW : Below w.heap.size w W := by rw [hW]; exact (Below.refl _ _).alloc (Nat.le_refl _) _
  have hsW : W.heap.size = w.heap.size + 1 := by rw [hW]; simp
  have hoW : Own W w.heap.size W.heap.size (.slice (some ⟨w.heap.size, 0, none⟩) 0 0) (iz []) := by rw [hW]; exact Own.new (own_none w) (Nat.le_refl _)
  have HW := Lib.hid hW; have HB := Lib.hid hbW; have HO := Lib.hid hoW
  have hs1 : w.heap.size ≤ W.heap.size := by omega
  have hR1 := HH.out.below hbW
  clear hW hbW hoW
  rcases Bool.eq_false_or_eq_true (boxB zs) with hb | hb
  rotate_left
  · have HF := Lib.hid (helpI_no hb)
    have HBX := Lib.hid hb
    clear hb
    by_cases h0 : zs.length = 0
    · rw [h0]
      go_enter Try.func21, Try.ntmps21
      go_wp2_with fail
      rw [← HW.out]
      refine wp_loop_rounds 1 ?_
      rw [rounds_succ]
      go_wp2_with fail
      go_ret2
      exact ⟨⟨_, by rw [HBX.out]; rfl, by rw [HF.out]; exact HO.out⟩, HB.out⟩
    · have h0' : (0 : Int) < zs.length := by omega
      go_enter Try.func21, Try.ntmps21
      go_wp2_with fail
      rw [← HW.out]
      refine wp_loop_rounds 1 ?_
      rw [rounds_succ]
      go_wp2_with fail
      with_reducible refine (specBoxesOk_any _ zs _ hR1).mono ?_
      rintro e w2 ⟨rfl, b2⟩
      rw [HBX.out]
      have HB2 := Lib.hid (HB.out.trans (b2.mono hs1))
      have HO2 := Lib.hid ((HO.out.below b2 (Nat.le_refl _)).wide (Nat.le_refl _) b2.size)
      clear b2
      go_wp2_with fail
      go_ret2
      exact ⟨⟨_, by rw [HBX.out]; rfl, by rw [HF.out]; exact HO2.out⟩, HB2.out⟩
  · obtain ⟨ns, rfl, hP⟩ := boxB_perm hb
    have HBX := Lib.hid hb
    have HF := Lib.hid (helpI_iz hP)
    have h7 := hP.hi
    have HFIN : Hid ((allH ns ns.length).2 ≤ 7) := by
      obtain ⟨x, y, -, -, e, h, -⟩ := help_out hP
      unfold Hid
      rw [e]; exact h
    have HBDR : Hid (∀ a j, a + j ≤ ns.length → (rowH ns a j (allH ns a)).2 ≤ 8) := fun a j hj => invH_bd hP (rowH_inv (allH_inv ns a (by omega)) j hj)
    rw [length_iz] at HH l1 ⊢
    clear hb hR1
    go_enter Try.func21, Try.ntmps21
    go_wp2_with fail
    rw [← HW.out]
    go_loopg [4, 5, 6] ns.length (fun g v m i wr => ∃ a : Nat, a ≤ ns.length ∧ g = ns.length - a ∧ i = .int .i64 a ∧ m = .int .i64 (lstI (allH ns a).2) ∧ Own wr w.heap.size wr.heap.size v (iz (allH ns a).1) ∧ Below w.heap.size w wr ∧ w.heap.size ≤ wr.heap.size)
    case atStart => exact ⟨0, Nat.zero_le _, rfl, rfl, rfl, HO.out, HB.out, hs1⟩
    case round =>
      clear HO HB
      obtain ⟨wo, rfl⟩ : ∃ wo : World, wo = wr := ⟨_, rfl⟩
      obtain ⟨a, ha, rfl, rfl, rfl, ho, hb, hs⟩ := hrel
      by_cases hlt : a < ns.length
      · have HO := Lib.hid ho
        have HB := Lib.hid hb
        have HNX : Hid (allH ns (a + 1) = rowH ns a (ns.length - a) (allH ns a)) := rfl
        have hRr := HH.out.below hb
        clear ho hb
        go_wp2_with fail
        with_reducible refine (specBoxesOk_any _ (iz ns) _ hRr).mono ?_
        rintro e w2 ⟨rfl, b2⟩
        rw [HBX.out]
        have hs2 := b2.size
        have HS0 : Hid (Own w2 w.heap.size w2.heap.size _ (iz (allH ns a).1) ∧ Below w.heap.size w w2 ∧ w.heap.size ≤ w2.heap.size) := ⟨(HO.out.below b2 (Nat.le_refl _)).wide (Nat.le_refl _) hs2, HB.out.trans (b2.mono hs), by omega⟩
        clear HO HB hRr b2
        go_wp2_with fail
        go_loopg [4, 5, 7] (ns.length - a) (fun g2 v m i wr => ∃ j : Nat, a + j ≤ ns.length ∧ g2 = ns.length - a - j ∧ i = .int .i64 ((a + j : Nat) : Int) ∧ m = .int .i64 (lstI (rowH ns a j (allH ns a)).2) ∧ Own wr w.heap.size wr.heap.size v (iz (rowH ns a j (allH ns a)).1) ∧ Below w.heap.size w wr ∧ w.heap.size ≤ wr.heap.size)
        case atStart => exact ⟨0, by omega, rfl, rfl, rfl, HS0.out.1, HS0.out.2.1, HS0.out.2.2⟩
        case round =>
          clear HS0
          obtain ⟨j, hj, hg, rfl, rfl, ho, hb, hs⟩ := hrel
          have HG := Lib.hid hg
          clear hg
          obtain ⟨b, hbj⟩ : ∃ b, b = a + j := ⟨_, rfl⟩
          rw [← hbj]
          have HBJ := Lib.hid hbj
          have HSTEP : Hid (rowH ns a (j + 1) (allH ns a) = stepH ns a b (rowH ns a j (allH ns a))) := by rw [hbj]; rfl
          have hm8 := HBDR.out a j hj
          clear hbj
          by_cases hbl : b < ns.length
          · have hRr := HH.out.below hb
            have HO := Lib.hid ho
            have HB := Lib.hid hb
            have hX := exch_perm hP hlt hbl
            have hlb := long_bd hX
            have HX := Lib.hid (exchI_iz hP hlt hbl)
            have HC := Lib.hid (circI_iz hX)
            have hcl : 0 < (circG (nx (exch ns a b)) (exch ns a b).length).length := by rw [length_circG]; exact hX.some
            have hc7 : (circG (nx (exch ns a b)) (exch ns a b).length).length ≤ 7 := by
              have := length_circK (nx (exch ns a b)) (exch ns a b).length
              rw [length_circG]
              have := hX.hi
              omega
            have HLN : Hid (nx (circG (nx (exch ns a b)) (exch ns a b).length) ((circG (nx (exch ns a b)) (exch ns a b).length).length - 1) = long (exch ns a b)) := (lastN_nx2 _).symm
            obtain ⟨s, hs0⟩ : ∃ s, s = rowH ns a j (allH ns a) := ⟨_, rfl⟩
            rw [← hs0] at HO HSTEP hm8 ⊢
            obtain ⟨m, hm⟩ : ∃ m, m = s.2 := ⟨_, rfl⟩
            rw [← hm] at hm8 ⊢
            have HM := Lib.hid hm
            have HNEW : Hid (stepH ns a b s = if long (exch ns a b) < m then ([a, b], long (exch ns a b)) else s) := by rw [hm]; rfl
            clear ho hb hs0 hm
            go_wp2_with fail
            with_reducible refine (specExchanged_any _ (iz ns) _ _ _ hRr).mono ?_
            rintro e w3 ⟨v2, rfl, o2, b2⟩
            rw [HX.out] at o2
            have r2 := o2.rd
            have hs2 := b2.size
            have HB2 := Lib.hid (HB.out.trans (b2.mono hs))
            have HO2 := Lib.hid (HO.out.below b2 (Nat.le_refl _))
            clear o2 b2 HO HB hRr
            go_wp2_with fail
            with_reducible refine (specCirclesOf_any _ (iz (exch ns a b)) _ r2).mono ?_
            rintro e w4 ⟨v4, rfl, o4, b4⟩
            rw [HC.out] at o4
            have r4 := o4.rd
            have hs3 := b4.size
            have HB3 := Lib.hid (HB2.out.trans (b4.mono (by omega)))
            have HO3 := Lib.hid ((HO2.out.below b4 hs2).wide (Nat.le_refl _) (Nat.le_trans hs2 hs3))
            have hs5 : w.heap.size ≤ w4.heap.size := by omega
            generalize circG (nx (exch ns a b)) (exch ns a b).length = cs at *
            obtain ⟨A, c, rfl, l5, m5⟩ := rdN_out r4
            obtain ⟨g, off, rfl, hg, x5⟩ := rdN_at r4 (cs.length - 1) (by omega)
            rw [HLN.out] at x5
            obtain ⟨K, hK⟩ : ∃ K, cs.length = K + 1 := ⟨cs.length - 1, by omega⟩
            rw [hK] at x5 l5 ⊢
            rw [Nat.add_sub_cancel] at x5
            generalize long (exch ns a b) = L at *
            have hK2 : (K : Int) ≤ 6 := by omega
            clear b4 r2 HO2 HB2 o4 r4 hK hcl hc7 HLN
            by_cases hlm : L < m
            · have HNEW2 : Hid (rowH ns a (j + 1) (allH ns a) = ([a, b], L)) := by unfold Hid; rw [HSTEP.out, HNEW.out, if_pos hlm]
              have HLI : Hid ((L : Int) = lstI L) := by unfold Hid lstI; rw [if_neg (by omega)]
              have HL : Hid (Own (w4.alloc (.cells #[.int .i64 (a : Int), .int .i64 (b : Int)] 3)) w.heap.size (w4.alloc (.cells #[.int .i64 (a : Int), .int .i64 (b : Int)] 3)).heap.size (.slice (some ⟨w4.heap.size, 0, none⟩) 2 2) (iz [a, b]) ∧ Below w.heap.size w (w4.alloc (.cells #[.int .i64 (a : Int), .int .i64 (b : Int)] 3))) :=
                ⟨(Own.new (own_two w4 a b) (Nat.le_refl _)).wide hs5 (Nat.le_refl _), HB3.out.alloc hs5 _⟩
              by_cases h8 : m = 8
              · have e8 : lstI m = -1 := by unfold lstI; rw [if_pos h8]
                rw [e8]
                clear hlm HO3 h8 e8
                go_wp2
                go_roundg (ns.length - a - (j + 1))
                case measure => have := HG.out; have := HBJ.out; omega
                case rel => exact ⟨j + 1, by have := HBJ.out; omega, rfl, by have := HBJ.out; congr 1; omega, by rw [HNEW2.out, HLI.out], by rw [HNEW2.out]; exact HL.out.1, HL.out.2, by simp; omega⟩
              · have e8 : lstI m = (m : Int) := by unfold lstI; rw [if_neg h8]
                have hlm' : (L : Int) < m := by omega
                have hm0 : ¬ (m : Int) < 0 := by omega
                rw [e8]
                clear hlm HO3 h8 e8
                go_wp2
                go_roundg (ns.length - a - (j + 1))
                case measure => have := HG.out; have := HBJ.out; omega
                case rel => exact ⟨j + 1, by have := HBJ.out; omega, rfl, by have := HBJ.out; congr 1; omega, by rw [HNEW2.out, HLI.out], by rw [HNEW2.out]; exact HL.out.1, HL.out.2, by simp; omega⟩
            · have hlm' : ¬ (L : Int) < m := by omega
              have HNEW2 : Hid (rowH ns a (j + 1) (allH ns a) = s) := by unfold Hid; rw [HSTEP.out, HNEW.out, if_neg hlm]
              have e8 : lstI m = (m : Int) := by unfold lstI; rw [if_neg (by omega)]
              have HE8 := Lib.hid e8
              have hm0 : ¬ (m : Int) < 0 := by omega
              rw [e8]
              clear hlm e8
              go_wp2
              go_roundg (ns.length - a - (j + 1))
              case measure => have := HG.out; have := HBJ.out; omega
              case rel => exact ⟨j + 1, by have := HBJ.out; omega, rfl, by have := HBJ.out; congr 1; omega, by rw [HNEW2.out, ← HM.out, HE8.out], by rw [HNEW2.out]; exact HO3.out, HB3.out, hs5⟩
          · have hj' : j = ns.length - a := by have := HBJ.out; omega
            have HS1 : Hid (rowH ns a j (allH ns a) = allH ns (a + 1)) := by rw [hj']; exact HNX.out.symm
            have HO := Lib.hid ho
            have HB := Lib.hid hb
            clear hj' ho hb
            go_wp2
            go_roundg (ns.length - (a + 1))
            case measure => omega
            case rel => exact ⟨a + 1, by omega, rfl, by go_num, by rw [HS1.out], by rw [← HS1.out]; exact HO.out, HB.out, hs⟩
      · have ha' : a = ns.length := by omega
        subst ha'
        have HO := Lib.hid ho
        have HB := Lib.hid hb
        have hfin := HFIN.out
        have e8 : lstI (allH ns ns.length).2 = ((allH ns ns.length).2 : Int) := by unfold lstI; rw [if_neg (by omega)]
        rw [e8]
        clear ho hb e8
        go_wp2
        go_ret2
        exact ⟨⟨_, by rw [HBX.out]; rfl, by rw [HF.out]; exact HO.out⟩, HB.out⟩
end Go.Proofs.Ytdpijiccolbljaa

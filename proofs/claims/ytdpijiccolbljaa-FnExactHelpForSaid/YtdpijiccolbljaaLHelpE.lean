/- The walk of the law on the exactness of HelpFor. -/
import Derived.Test.YtdpijiccolbljaaHelpS
import Derived.Test.YtdpijiccolbljaaHelp
import Derived.Test.YtdpijiccolbljaaExI
namespace Go.Proofs.Ytdpijiccolbljaa
open Go.RowKit

set_option maxHeartbeats 800000 in
set_option maxRecDepth 100000 in
theorem walk_FnExactHelpFor (a0 : Option Addr) (len0 cap0 : Nat) (z0 : List Int) (w : World) (w0 : IsRowB .i64 w a0 len0 cap0 z0) :
    Calls Try.prog 4 #[.slice a0 len0 cap0] w fun e w' => e = .returned (.bool true) ∧ Below w.heap.size w w' := by
  obtain ⟨hR, hl, -⟩ := rd_of_row w0
  generalize z0.take len0 = zs at *
  have HL := Lib.hid hl; clear hl w0
  by_cases hlen : 1048576 < len0
  · go_enter Try.func4, Try.ntmps4
    go_wp2
    go_ret
    exact ⟨rfl, Below.refl _ _⟩
  · have hz : zs.length ≤ 35184372088832 := by have := HL.out; omega
    obtain ⟨L, hL⟩ : ∃ L, L = helpI zs := ⟨_, rfl⟩
    have hLL : L.length ≤ 7 := by rw [hL]; exact Nat.le_trans (helpI_len zs) (by omega)
    obtain ⟨B, hB⟩ : ∃ B, B = boxB zs := ⟨_, rfl⟩
    have H1 : Hid (∀ (W : World) (u : Value), Rd W u zs → Calls Try.prog 21 #[u] W fun e w' => (∃ v', e = .returned (.tuple #[v', .bool B]) ∧ Own w' W.heap.size w'.heap.size v' L) ∧ Below W.heap.size W w') := fun W u h => by
      rw [hL, hB]; exact specHelpFor_any u zs W h
    have H2 : Hid (∀ (W : World) (u : Value), Rd W u zs → Calls Try.prog 22 #[u] W fun e w' => (∃ v', e = .returned (.tuple #[v', .bool B]) ∧ Own w' W.heap.size w'.heap.size v' L) ∧ Below W.heap.size W w') := fun W u h => by
      rw [hL, hB]; exact implHelpFor_any u zs W h
    clear hL hB
    go_enter Try.func4, Try.ntmps4
    go_wp2_with fail
    refine (toIntS_any _ zs _ hR hz).mono ?_
    rintro e w1 ⟨u, rfl, o1, b1⟩
    go_wp2_with fail
    refine (H1.out _ _ o1.rd).mono ?_
    rintro e w2 ⟨⟨v0, rfl, o2⟩, b2⟩
    have s1 := b1.size
    have s2 := b2.size
    have bb := b1.trans (b2.mono s1)
    have hR2 := hR.below bb
    clear o1 b1 b2
    go_wp2_with fail
    refine (toIntS_any _ zs _ hR2 hz).mono ?_
    rintro e w3 ⟨x, rfl, o3, b3⟩
    have s3 := b3.size
    have o2 := o2.below b3 (Nat.le_refl _)
    have bb := bb.trans (b3.mono (by omega))
    clear b3 hR2
    go_wp2_with fail
    refine (H2.out _ _ o3.rd).mono ?_
    rintro e w4 ⟨⟨v1, rfl, o4⟩, b4⟩
    have st : ExS w (.slice a0 len0 cap0) x v0 v1 zs zs L L w1.heap.size w2.heap.size w2.heap.size w3.heap.size w3.heap.size w4.heap.size w4 :=
      ⟨bb.trans (b4.mono (by omega)), hR, o2.below b4 (by omega), o3.below b4 (by omega), o4, by omega, by omega, by omega, by omega, by omega, b4.size, by omega⟩
    have r0 := st.o0.rd
    have r1 := st.o1.rd
    have ST := Lib.hid st
    clear st o2 o3 o4 b4 bb s1 s2 s3 hR
    go_wp2_with fail
    refine (eqIntS_true _ _ L _ r1 r0).mono ?_
    rintro e w5 ⟨rfl, n5, rfl⟩
    have st := ST.out.drewN n5
    clear ST r0 r1
    have hR5 := st.rd
    have ST := Lib.hid st
    clear st
    go_wp2_with fail
    refine (toIntS_any _ zs _ hR5 hz).mono ?_
    rintro e w6 ⟨u6, rfl, o6, b6⟩
    have st := ST.out.below b6
    have ox := st.ox.rd
    have o6 := o6.rd
    clear ST hR5 b6
    have ST := Lib.hid st
    clear st
    go_wp2_with fail
    refine (eqIntS_true _ _ zs _ ox o6).mono ?_
    rintro e w7 ⟨rfl, n, rfl⟩
    have st := ST.out.drewN n
    clear ST o6 ox
    have ST := Lib.hid st
    have ox := st.ox
    clear st
    go_wp2_with fail
    refine (markIntS_any _ _ _ zs 1 _ ox (by omega) (by omega)).mono ?_
    rintro e w8 ⟨rfl, o8, t8, -⟩
    have st := ST.out.turnX o8 t8
    clear ST ox o8 t8
    have r0 := st.o0.rd
    have r1 := st.o1.rd
    have ST := Lib.hid st
    clear st
    have hk : ¬ (1 : Int) + zs.length < 0 := by omega
    go_wp2_with fail
    refine (eqIntS_true _ _ L _ r1 r0).mono ?_
    rintro e w9 ⟨rfl, n9, rfl⟩
    have st := ST.out.drewN n9
    clear ST r0 r1
    have o1 := st.o1
    have ST := Lib.hid st
    clear st
    go_wp2_with fail
    refine (markIntS_any _ _ _ L 1 _ o1 (by omega) (by omega)).mono ?_
    rintro e w10 ⟨rfl, o10, t10, -⟩
    have st := ST.out.turn1 o10 t10
    clear ST o1 o10 t10
    have r1 := st.o1.rd
    have ST := Lib.hid st
    clear st
    go_wp2_with fail
    refine (heldIntS_up _ L.length 1 _ r1 (by omega) (by omega)).mono ?_
    rintro e w11 ⟨rfl, rfl⟩
    have hR11 := ST.out.rd
    clear r1
    go_wp2_with fail
    refine (toIntS_any _ zs _ hR11 hz).mono ?_
    rintro e w12 ⟨u12, rfl, o12, b12⟩
    have st := ST.out.below b12
    clear ST b12 hR11
    have ST := Lib.hid st
    clear st
    go_wp2_with fail
    refine (H2.out _ _ o12.rd).mono ?_
    rintro e w13 ⟨⟨v13, rfl, o13⟩, b13⟩
    have st := ST.out.below b13
    clear ST b13 o12
    have r0 := st.o0.rd
    have r3 := o13.rd
    have ST := Lib.hid st
    clear st o13
    go_wp2_with fail
    refine (eqIntS_true _ _ L _ r3 r0).mono ?_
    rintro e w14 ⟨rfl, n14, rfl⟩
    have st := ST.out.drewN n14
    clear ST r0 r3
    have r1 := st.o1.rd
    have ST := Lib.hid st
    clear st
    go_wp2_with fail
    refine (heldIntS_up _ L.length 1 _ r1 (by omega) (by omega)).mono ?_
    rintro e w15 ⟨rfl, rfl⟩
    have HF := Lib.hid ST.out.bel
    clear r1 ST
    go_wp2
    go_ret
    exact ⟨rfl, HF.out⟩
end Go.Proofs.Ytdpijiccolbljaa

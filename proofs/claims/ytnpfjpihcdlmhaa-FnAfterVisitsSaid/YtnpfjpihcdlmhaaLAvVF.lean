/- The walk of the law on AfterVisits. -/
import Derived.Test.YtnpfjpihcdlmhaaLRoomNewF
import Derived.Test.YtnpfjpihcdlmhaaSeenT
namespace Go.Proofs.Ytnpfjpihcdlmhaa
open Go.RowKit

theorem roomI_facts {P : Int} {zs L : List Int} {sw cnt : Int} (he : roomI P zs = (sw, cnt, L)) :
    (visB P zs = true ∧ roomB sw cnt L = true ∧ P = (L.length : Int) ∧ ∀ q, q < L.length → L.getD q 0 = 1 → hasB (q : Int) zs = true) ∨ (visB P zs = false ∧ sw = 0 ∧ cnt = 0 ∧ L = []) := by
  unfold roomI at he
  rcases Bool.eq_false_or_eq_true (visB P zs) with hv | hv
  · left
    rw [if_pos hv] at he
    obtain ⟨h1, h2⟩ := stV_len hv zs.length (Nat.le_refl _)
    obtain ⟨h3, -⟩ := wasIn_at hv zs.length (Nat.le_refl _)
    rw [he] at h1 h2 h3
    rw [List.take_length] at h3
    have h4 := (visB_yes hv).1
    refine ⟨hv, h1, ?_, h3⟩
    have : L.length = P.toNat := h2
    omega
  · right
    rw [hv] at he
    injection he with e1 e2
    injection e2 with e2 e3
    exact ⟨hv, e1.symm, e2.symm, e3.symm⟩

set_option maxHeartbeats 800000 in
set_option maxRecDepth 100000 in
theorem walk_FnAfterVisits (a0 : Option Addr) (len0 cap0 : Nat) (z0 : List Int) (w : World) (w0 : IsRowB .u8 w a0 len0 cap0 z0) :
    Calls Try.prog 17 #[.slice a0 len0 cap0] w fun e w' => e = .returned (.bool true) ∧ Below w.heap.size w w' := by
  by_cases hlen : 1048576 < len0
  · go_enter Try.func17, Try.ntmps17
    go_wp2
    go_ret
    exact ⟨rfl, Below.refl _ _⟩
  · go_enter Try.func17, Try.ntmps17
    go_wp2_with fail
    refine (DrawAfterVisits_any _ _ _ _ _ w0).mono ?_
    rintro e w1 ⟨⟨P, v, zs, rfl, ⟨hP0, hP1, hl, hz, -⟩, ho⟩, b1⟩
    have hR := ho.rd
    have s1 := b1.size
    have hp : -9223372036854775808 ≤ P ∧ P ≤ 9223372036854775807 := by omega
    clear w0 ho hz
    obtain ⟨sw, cnt, L, he⟩ : ∃ a b c, roomI P zs = (a, b, c) := ⟨_, _, _, rfl⟩
    have H1 : Hid (∀ (W : World) (u : Value), Rd W u zs → Calls Try.prog 40 #[.int .i64 P, u] W fun e w' => ∃ v', e = .returned (.agg #[.int .i64 sw, .int .i64 cnt, v']) ∧ Own w' W.heap.size w'.heap.size v' L ∧ Below W.heap.size W w') := fun W u h => by
      have := specAfterVisits_any u zs P W h hp
      rw [he] at this; exact this
    have H2 : Hid (∀ (W : World) (u : Value), Rd W u zs → Calls Try.prog 41 #[.int .i64 P, u] W fun e w' => ∃ v', e = .returned (.agg #[.int .i64 sw, .int .i64 cnt, v']) ∧ Own w' W.heap.size w'.heap.size v' L ∧ Below W.heap.size W w') := fun W u h => by
      have := implAfterVisits_any u zs P W h hp
      rw [he] at this; exact this
    have HE := Lib.hid (roomI_facts he)
    clear he
    go_wp2_with fail
    refine (H2.out _ _ hR).mono ?_
    rintro e w2 ⟨v2, rfl, o2, b2⟩
    obtain ⟨A, c, rfl⟩ := own_slice o2
    have s2 := b2.size
    have bb := b1.trans (b2.mono s1)
    have hR2 := hR.below b2
    obtain ⟨w3, hw3⟩ : ∃ w3 : World, w3 = w2.alloc (.cells #[.int .i64 sw, .int .i64 cnt, .slice A L.length c] 30) := ⟨_, rfl⟩
    have ba := (Below.refl w2.heap.size w2).alloc (Nat.le_refl _) (.cells #[.int .i64 sw, .int .i64 cnt, .slice A L.length c] 30)
    have g3 := heap_alloc_new w2 (.cells #[.int .i64 sw, .int .i64 cnt, .slice A L.length c] 30)
    rw [← hw3] at ba g3
    have o3 := o2.below ba (Nat.le_refl _)
    have hR3 := hR2.below ba
    have s3 := ba.size
    have bb3 := bb.trans (ba.mono (by omega))
    obtain ⟨⟨k0, k1, k2⟩, -, -, -, kz⟩ := blk3 g3
    have HW3 := Lib.hid hw3; have HG := Lib.hid g3; have HB := Lib.hid bb3
    clear b1 b2 bb o2 hw3 ba g3 bb3 hR hR2
    go_wp2_with fail
    rw [← HW3.out]
    go_region_held3 (fun wx => wx.cell? ⟨w2.heap.size, 0, none⟩ = some (.int .i64 sw) ∧ wx.cell? ⟨w2.heap.size, 1, none⟩ = some (.int .i64 cnt) ∧ wx.cell? ⟨w2.heap.size, 2, none⟩ = some (.slice A L.length c)) (first | exact ⟨(b8.cell qz).trans q0, (b8.cell qz).trans q1, (b8.cell qz).trans q2⟩ | exact ⟨q0, q1, q2⟩ | go_keep)
      (first | (go_at_call 40; refine (H1.out _ _ (by exact hR3)).mono ?_; rintro e w7 ⟨v7, rfl, o7, b7⟩; obtain ⟨A7, n7, c7, rfl⟩ := own_form o7; obtain ⟨⟨q0, q1, q2⟩, -, -, -, qz⟩ := blk3 ((b7.block _ (by exact kz)).trans (by exact HG.out))) | (go_at_call 47; refine (sameRoom_true _ _ _ _ L _ (Rd.below (by exact o3.rd) b7) o7.rd).mono ?_; rintro e w8 ⟨rfl, b8⟩))
    obtain ⟨⟨r0, r1, r2⟩, rz⟩ : (w8.cell? ⟨w2.heap.size, 0, none⟩ = some (.int .i64 sw) ∧ w8.cell? ⟨w2.heap.size, 1, none⟩ = some (.int .i64 cnt) ∧ w8.cell? ⟨w2.heap.size, 2, none⟩ = some (.slice A L.length c)) ∧ w2.heap.size < w8.heap.size :=
      ⟨⟨(b8.cell qz).trans q0, (b8.cell qz).trans q1, (b8.cell qz).trans q2⟩, Nat.lt_of_lt_of_le qz b8.size⟩
    have hR8 : Rd w8 (.slice A L.length c) L := Rd.below (Rd.below (by exact o3.rd) b7) b8
    have hV8 : Rd w8 v zs := Rd.below (Rd.below (by exact hR3) b7) b8
    have hbf := ((HB.out.drew).trans (b7.mono (by rw [World.size_drew]; omega))).trans (b8.mono (by have := b7.size; rw [World.size_drew] at this; omega))
    have HBF := Lib.hid hbf
    have hz8 := hbf.size
    clear hbf b7 b8 k0 k1 k2 q0 q1 q2 o7 HG HB HW3 o3 H1 H2 hR3
    rcases HE.out with ⟨hv, hrm, hPL, hwas⟩ | ⟨hv, rfl, rfl, rfl⟩
    · subst hPL
      have HV := Lib.hid hv; have HM := Lib.hid hrm; have HWS := Lib.hid hwas
      clear hv hrm hwas HE
      go_wp2_with fail
      refine (specVisitsOk_any _ zs _ _ hV8 hp).mono ?_
      rintro e w9 ⟨rfl, rfl⟩
      rw [HV.out]
      go_wp2_with fail
      go_loop [6] (fun i => ∃ k : Nat, k ≤ L.length ∧ i = .int .i64 k) (fun i => L.length - (intOf i).toNat)
      case atStart => exact ⟨0, Nat.zero_le _, rfl⟩
      case round =>
        obtain ⟨k, hk, rfl⟩ := hrel
        by_cases hlt : k < L.length
        · have hR9 := hR8
          obtain ⟨A', c', e9, m1, m2, m3⟩ := hR8
          injection e9 with e1 e2 e3
          subst e1 e3
          obtain ⟨g1, o1, z, rfl, hg1, x1, HZ⟩ := rd_at m3 k hlt
          clear m3 hR9
          by_cases hz1 : z = 1
          · subst hz1
            have hh := Lib.hid (HWS.out k hlt HZ.out.symm)
            go_wp2_with fail
            refine (hasInt_any _ zs _ _ hV8).mono ?_
            rintro e w10 ⟨rfl, rfl⟩
            rw [hh.out]
            go_wp2_with fail
            go_round
            case rel => exact ⟨k + 1, by omega, by go_num⟩
            case measure => simp [intOf]; omega
          · have hzq : (z == 1) = false := by simpa using hz1
            go_wp2_with fail
            go_round
            case rel => exact ⟨k + 1, by omega, by go_num⟩
            case measure => simp [intOf]; omega
        · have hk' : k = L.length := by omega
          subst hk'
          go_wp2_with fail
          refine (implRoomOk_any _ _ _ L _ hR8).mono ?_
          rintro e w10 ⟨rfl, b9⟩
          rw [HM.out]
          have k0 := (b9.cell (p := ⟨w2.heap.size, 0, none⟩) rz).trans r0
          have k1 := (b9.cell (p := ⟨w2.heap.size, 1, none⟩) rz).trans r1
          have k2 := (b9.cell (p := ⟨w2.heap.size, 2, none⟩) rz).trans r2
          have HB9 := Lib.hid (HBF.out.trans (b9.mono (by omega)))
          clear b9 r0 r1 r2
          go_wp2_with fail
          go_ret
          exact ⟨rfl, HB9.out⟩
    · have HV := Lib.hid hv
      clear hv HE
      have hcc : c ≤ 9223372036854775807 := by obtain ⟨A', c', e9, m1, m2, m3⟩ := hR8; injection e9 with e1 e2 e3; omega
      have H9 := Lib.hid (noRoom_true A c w8 hcc)
      go_wp2_with fail
      refine (specVisitsOk_any _ zs _ _ hV8 hp).mono ?_
      rintro e w9 ⟨rfl, rfl⟩
      rw [HV.out]
      go_wp2_with fail
      refine H9.out.mono ?_
      rintro e w10 ⟨rfl, b9⟩
      have HB9 := Lib.hid (HBF.out.trans (b9.mono (by omega)))
      clear b9
      go_wp2_with fail
      refine (alive_true _).mono ?_
      rintro e w11 ⟨rfl, rfl⟩
      go_wp2
      go_ret
      exact ⟨rfl, HB9.out⟩
end Go.Proofs.Ytnpfjpihcdlmhaa

/- The walk of the law on BoxesOk. -/
import Derived.Test.YtdpijiccolbljaaBackP
import Derived.Test.YtdpijiccolbljaaDrawsBx
import Derived.Test.YtdpijiccolbljaaAlive
namespace Go.Proofs.Ytdpijiccolbljaa
open Go.RowKit

set_option maxHeartbeats 1600000 in
set_option maxRecDepth 100000 in
theorem walk_FnBoxesOk (a0 : Option Addr) (len0 cap0 : Nat) (z0 : List Int) (w : World) (w0 : IsRowB .u8 w a0 len0 cap0 z0) :
    Calls Try.prog 10 #[.slice a0 len0 cap0] w fun e w' => e = .returned (.bool true) ∧ Below w.heap.size w w' := by
  by_cases hlen : 1048576 < len0
  · go_enter Try.func10, Try.ntmps10
    go_wp2
    go_ret
    exact ⟨rfl, Below.refl _ _⟩
  · obtain ⟨i0, hi, hz0, hz1, hz2⟩ := info_parts infoInt
    go_enter Try.func10, Try.ntmps10
    go_wp2_with fail
    with_reducible refine (DrawBoxesOk_any _ _ _ _ _ w0).mono ?_
    rintro e w1 ⟨⟨v, zs, rfl, hl, hr⟩, b1⟩
    clear w0
    go_wp2_with fail
    with_reducible refine (implBoxesOk_any _ zs _ hr).mono ?_
    rintro e w' ⟨rfl, rfl⟩
    go_wp2_with fail
    with_reducible refine (specBoxesOk_any _ zs _ hr).mono ?_
    rintro e w2 ⟨rfl, b2⟩
    have hr2 := hr.below b2
    have HB := Lib.hid (b1.trans (b2.mono b1.size))
    clear b1 b2 hr
    rcases Bool.eq_false_or_eq_true (boxB zs) with hb | hb
    rotate_left
    · rw [hb]
      have ho := own_one w2 0
      have hr3 : Rd (w2.alloc (.cells #[.int .i64 0] 3)) (.slice (some ⟨w2.heap.size, 0, none⟩) 1 1) (iz [0]) := (show Own _ w2.heap.size (w2.heap.size + 1) _ (iz [0]) from Own.new (own_one w2 0) (by simp)).rd
      have hbx : boxB (iz [0]) = true := by decide +kernel
      have HBX := Lib.hid hbx
      have HB3 := Lib.hid (HB.out.alloc HB.out.size (.cells #[.int .i64 0] 3))
      clear hb hbx ho
      go_wp2_with fail
      with_reducible refine (implBoxesOk_any _ (iz [0]) _ hr3).mono ?_
      rintro e w' ⟨rfl, rfl⟩
      rw [HBX.out]
      go_wp2_with fail
      with_reducible refine (alive_true _).mono ?_
      rintro e w' ⟨rfl, rfl⟩
      go_wp2
      go_ret
      exact ⟨rfl, HB3.out⟩
    · rw [hb]
      obtain ⟨ns, rfl, hP⟩ := boxB_perm hb
      have h7 := hP.hi
      have HL : Hid (∀ a, a < ns.length → nx ns a < ns.length) := fun a ha => hP.nx_lt ha
      have HP := Lib.hid (perm_boxB (back_perm hP))
      obtain ⟨a1, c1, rfl, l1, m1⟩ := rdN_out hr2
      have HR := Lib.hid hr2
      have hs2 := HB.out.size
      clear hb hr2
      go_wp2_with (at_make; refine wpList_make_full _ rfl _ _ 22 rfl w2.heap.size 3 i0 (.int .i64 0) 1 Try.underlying22 hi hz0 hz1 _ _ _ _ ns.length rfl rfl rfl rfl ?c1 ?c2 ?c3 ?_)
      case c1 => rw [hz2]; omega
      case c2 => unfold maxLen; omega
      case c3 => exact Nat.le_refl _
      intro w3 hown hgr
      have e0 : (madeCells #[Value.int .i64 0] ns.length).toList = (iz (backF ns 0)).map (Value.int .i64) := (toList_madeCells_one _ _).trans (by simp [backF, iz])
      rw [e0] at hown
      have hb3 : Below w2.heap.size w2 w3 := (Below.refl _ _).grown hgr (Nat.le_refl _) (fun k hk => by cases hk)
      have HO : Hid (Own w3 w2.heap.size w3.heap.size (.slice (some ⟨w2.heap.size, 0, none⟩) ns.length ns.length) (iz (backF ns 0))) := Own.new (by rw [length_iz, length_backF]; exact hown) (Nat.le_refl _)
      have HB3 := Lib.hid hb3
      clear e0 hz0 hz1 hz2 hi hgr hown hb3
      go_wp2_with fail
      go_loopw [6] (fun i wr => ∃ k : Nat, k ≤ ns.length ∧ i = .int .i64 k ∧ Own wr w2.heap.size w3.heap.size (.slice (some ⟨w2.heap.size, 0, none⟩) ns.length ns.length) (iz (backF ns k)) ∧ Below w2.heap.size w2 wr) (fun i _ => ns.length - (intOf i).toNat)
      case atStart => exact ⟨0, Nat.zero_le _, rfl, HO.out, HB3.out⟩
      case round =>
        clear HO HB3
        obtain ⟨k, hk, rfl, ho, hb⟩ := hrel
        by_cases hlt : k < ns.length
        · obtain ⟨g1, o1, rfl, hg1, x1⟩ := rdN_at HR.out k hlt
          have y1 := (hb.cell (p := ⟨g1, o1 + k, none⟩) hg1).trans x1
          have hnl := HL.out k hlt
          have hll : (iz (backF ns k)).length = ns.length := by rw [length_iz, length_backF]
          have x2 := ho.cellAt (nx ns k) (by rw [hll]; exact hnl)
          have f2 := ho.frozenAt (nx ns k) hll.symm
          have s1 := ho.set (nx ns k) (k : Int) hll.symm
          rw [iz_set] at s1
          have HS : Hid (Own (wr.setCell ⟨w2.heap.size, nx ns k, none⟩ (.int .i64 (k : Int))) w2.heap.size w3.heap.size (.slice (some ⟨w2.heap.size, 0, none⟩) ns.length ns.length) (iz (backF ns (k + 1))) ∧ Below w2.heap.size w2 (wr.setCell ⟨w2.heap.size, nx ns k, none⟩ (.int .i64 (k : Int)))) :=
            ⟨s1.1, below_turned hb s1.2 (Nat.le_refl _) hb.size⟩
          generalize (iz (backF ns k)).getD (nx ns k) 0 = q at x2
          generalize nx ns k = b at *
          clear s1 ho hb x1 hll
          go_wp2
          go_roundw
          case rel => exact ⟨k + 1, by omega, by go_num, HS.out.1, HS.out.2⟩
          case measure => simp [intOf]; omega
        · have hk' : k = ns.length := by omega
          subst hk'
          have hr5 : Rd wr (.slice (some ⟨w2.heap.size, 0, none⟩) ns.length ns.length) (iz (back ns)) := ho.rd
          have HB5 := Lib.hid (HB.out.trans (hb.mono hs2))
          clear ho hb
          go_wp2_with fail
          with_reducible refine (implBoxesOk_any _ (iz (back ns)) _ hr5).mono ?_
          rintro e w' ⟨rfl, rfl⟩
          rw [HP.out]
          go_wp2
          go_ret
          exact ⟨rfl, HB5.out⟩
end Go.Proofs.Ytdpijiccolbljaa

/- The walk of the law on AllFind. -/
import Derived.Test.YtdpijiccolbljaaFindS
import Derived.Test.YtdpijiccolbljaaDrawsBx
import Derived.Test.YtdpijiccolbljaaAlive
namespace Go.Proofs.Ytdpijiccolbljaa
open Go.RowKit

theorem lastN_nx : ∀ l : List Nat, lastN l = nx l (l.length - 1)
  | [] => rfl
  | [a] => rfl
  | a :: b :: l => by
    show lastN (b :: l) = _
    rw [lastN_nx (b :: l)]
    rfl

set_option maxHeartbeats 1600000 in
set_option maxRecDepth 100000 in
theorem walk_FnAllFind (a0 : Option Addr) (len0 cap0 : Nat) (z0 : List Int) (w : World) (w0 : IsRowB .u8 w a0 len0 cap0 z0) :
    Calls Try.prog 15 #[.slice a0 len0 cap0] w fun e w' => e = .returned (.bool true) ∧ Below w.heap.size w w' := by
  by_cases hlen : 1048576 < len0
  · go_enter Try.func15, Try.ntmps15
    go_wp2
    go_ret
    exact ⟨rfl, Below.refl _ _⟩
  · go_enter Try.func15, Try.ntmps15
    go_wp2_with fail
    with_reducible refine (DrawAllFind_any _ _ _ _ _ w0).mono ?_
    rintro e w1 ⟨⟨v, zs, t, rfl, hl, hr⟩, b1⟩
    clear w0
    go_wp2_with fail
    with_reducible refine (implAllFind_any _ zs t _ hr).mono ?_
    rintro e w2 ⟨rfl, b2⟩
    have hr2 := hr.below b2
    have bb := b1.trans (b2.mono b1.size)
    clear b1 b2 hr
    go_wp2_with fail
    with_reducible refine (specAllFind_any _ zs t _ hr2).mono ?_
    rintro e w3 ⟨rfl, b3⟩
    have hr3 := hr2.below b3
    have bb := bb.trans (b3.mono bb.size)
    clear b3 hr2
    obtain ⟨ok, hok⟩ : ∃ ok, ok = findB zs t := ⟨_, rfl⟩
    rw [← hok]
    have HOK := Lib.hid hok
    clear hok
    go_wp2_with fail
    with_reducible refine (specBoxesOk_any _ zs _ hr3).mono ?_
    rintro e w4 ⟨rfl, b4⟩
    have hr4 := hr3.below b4
    have HB := Lib.hid (bb.trans (b4.mono bb.size))
    clear b4 hr3 bb
    rcases Bool.eq_false_or_eq_true (boxB zs) with hb | hb
    rotate_left
    · rw [hb]
      obtain rfl : ok = false := by rw [HOK.out]; exact findB_no hb
      clear hb
      go_wp2_with fail
      with_reducible refine (alive_true _).mono ?_
      rintro e w' ⟨rfl, rfl⟩
      go_wp2
      go_ret
      exact ⟨rfl, HB.out⟩
    · rw [hb]
      obtain ⟨ns, rfl, hP⟩ := boxB_perm hb
      have hfi := findB_iz hP t
      rw [← HOK.out] at hfi
      clear hb
      by_cases h1 : t < 0
      · obtain rfl : ok = false := by rw [hfi, inB_false (by omega)]; rfl
        clear hfi
        go_wp2_with fail
        with_reducible refine (alive_true _).mono ?_
        rintro e w' ⟨rfl, rfl⟩
        go_wp2
        go_ret
        exact ⟨rfl, HB.out⟩
      · by_cases h2 : 7 < t
        · obtain rfl : ok = false := by rw [hfi, inB_false (by omega)]; rfl
          clear hfi
          go_wp2_with fail
          with_reducible refine (alive_true _).mono ?_
          rintro e w' ⟨rfl, rfl⟩
          go_wp2
          go_ret
          exact ⟨rfl, HB.out⟩
        · rw [inB_true (by omega) (by omega), Bool.true_and] at hfi
          have HFI := Lib.hid hfi
          have HC := Lib.hid (circI_iz hP)
          have hcl : 0 < (circG (nx ns) ns.length).length := by rw [length_circG]; exact hP.some
          have hc7 : (circG (nx ns) ns.length).length ≤ 7 := by
            have := length_circK (nx ns) ns.length
            rw [length_circG]
            have := hP.hi
            omega
          have HLN : Hid (nx (circG (nx ns) ns.length) ((circG (nx ns) ns.length).length - 1) = long ns) := (lastN_nx _).symm
          clear hfi
          go_wp2_with fail
          with_reducible refine (implCirclesOf_any _ (iz ns) _ hr4).mono ?_
          rintro e w5 ⟨v5, rfl, o5, b5⟩
          rw [HC.out] at o5
          have r5 := o5.rd
          have HB5 := Lib.hid (HB.out.trans (b5.mono HB.out.size))
          generalize circG (nx ns) ns.length = cs at *
          obtain ⟨A, c, rfl, l5, m5⟩ := rdN_out r5
          obtain ⟨g, off, rfl, hg, x5⟩ := rdN_at r5 (cs.length - 1) (by omega)
          rw [HLN.out] at x5
          obtain ⟨K, hK⟩ : ∃ K, cs.length = K + 1 := ⟨cs.length - 1, by omega⟩
          rw [hK] at x5 l5 ⊢
          rw [Nat.add_sub_cancel] at x5
          obtain ⟨m, hm⟩ : ∃ m, m = long ns := ⟨_, rfl⟩
          rw [← hm] at x5 HFI
          have hK2 : (K : Int) ≤ 6 := by omega
          have hwr : IntKind.i64.wrap ((K : Int) + 1 - 1) = (K : Int) := by rw [IntKind.wrap_i64]; omega
          clear o5 b5 r5 hm hK hcl hc7 HLN
          by_cases hmt : (m : Int) ≤ t
          · obtain rfl : ok = true := by rw [HFI.out]; simpa using hmt
            go_wp2
            go_ret
            exact ⟨rfl, HB5.out⟩
          · obtain rfl : ok = false := by rw [HFI.out]; simpa using hmt
            go_wp2
            go_ret
            exact ⟨ret_bool (a := !decide ((m : Int) ≤ t)) (by simpa using hmt), HB5.out⟩
end Go.Proofs.Ytdpijiccolbljaa

/- The walk of the law on HelpFor. -/
import Derived.Test.YtdpijiccolbljaaHelpS
import Derived.Test.YtdpijiccolbljaaHelp
import Derived.Test.YtdpijiccolbljaaDrawsBx
import Derived.Test.YtdpijiccolbljaaAlive
import Derived.Deep.RegionHeld3
import Derived.Deep.RegionWith
namespace Go.Proofs.Ytdpijiccolbljaa
open Go.RowKit

set_option maxHeartbeats 3200000 in
set_option maxRecDepth 100000 in
theorem walk_FnHelpFor (a0 : Option Addr) (len0 cap0 : Nat) (z0 : List Int) (w : World) (w0 : IsRowB .u8 w a0 len0 cap0 z0) :
    Calls Try.prog 11 #[.slice a0 len0 cap0] w fun e w' => e = .returned (.bool true) ∧ Below w.heap.size w w' := by
  by_cases hlen : 1048576 < len0
  · go_enter Try.func11, Try.ntmps11
    go_wp2
    go_ret
    exact ⟨rfl, Below.refl _ _⟩
  · go_enter Try.func11, Try.ntmps11
    go_wp2_with fail
    with_reducible refine (DrawHelpFor_any _ _ _ _ _ w0).mono ?_
    rintro e w1 ⟨⟨v, zs, rfl, hl, hr⟩, b1⟩
    clear w0
    go_wp2_with fail
    with_reducible refine (implHelpFor_any _ zs _ hr).mono ?_
    rintro e w2 ⟨⟨v2, rfl, o2⟩, b2⟩
    have hr2 := hr.below b2
    have bb := b1.trans (b2.mono b1.size)
    clear b1 b2 hr
    go_wp2_with fail
    with_reducible refine (specHelpFor_any _ zs _ hr2).mono ?_
    rintro e w3 ⟨⟨v3, rfl, o3⟩, b3⟩
    have hr3 := hr2.below b3
    have q2 := o2.rd.below b3
    have q3 := o3.rd
    have bb := bb.trans (b3.mono bb.size)
    clear b3 hr2 o2 o3
    obtain ⟨ok, hok⟩ : ∃ ok, ok = boxB zs := ⟨_, rfl⟩
    rw [← hok]
    have HOK := Lib.hid hok
    clear hok
    go_wp2_with fail
    with_reducible refine (sameInts_true _ _ _ _ q2 q3).mono ?_
    rintro e w4 ⟨rfl, n, rfl⟩
    have HB := Lib.hid (below_drewN bb n)
    have hr2 := hr3.drewN n
    have q2 := q2.drewN n
    clear bb hr3 q3
    generalize w3.drewN n = w2 at *
    rcases ok with _ | _
    · rw [helpI_no HOK.out.symm] at q2
      obtain ⟨A, c, rfl, -, -, -⟩ := q2
      simp only [List.length_nil]
      go_wp2_with fail
      with_reducible refine (implBoxesOk_any _ zs _ hr2).mono ?_
      rintro e w' ⟨rfl, rfl⟩
      rw [← HOK.out]
      go_wp2_with fail
      with_reducible refine (alive_true _).mono ?_
      rintro e w' ⟨rfl, rfl⟩
      go_wp2
      go_ret
      exact ⟨rfl, HB.out⟩
    · obtain ⟨ns, rfl, hP⟩ := boxB_perm HOK.out.symm
      obtain ⟨x, y, hxy, hy, he, hmin⟩ := help_all hP
      rw [helpI_iz hP] at q2
      have he' : (allH ns ns.length).1 = [x, y] := he
      rw [he'] at q2
      have hX := exch_perm hP (a := x) (b := y) (by omega) hy
      have HX := Lib.hid (exchI_iz hP (a := x) (b := y) (by omega) hy)
      obtain ⟨T, hT⟩ : ∃ T : Nat, T = (ns.length + 1) / 2 := ⟨_, rfl⟩
      have h7 := hP.hi
      have HFI : Hid (findB (iz (exch ns x y)) (T : Int) = true) := by
        unfold Hid
        rw [findB_iz hX, inB_true (by omega) (by omega), Bool.true_and, decide_eq_true_iff]
        omega
      have ht1 : ((ns.length : Int) + 1).tdiv 2 = (T : Int) := by
        rw [Int.tdiv_eq_ediv_of_nonneg (by omega)]; omega
      have ht2 : ((ns.length : Int) + 1) / 2 = (T : Int) := by omega
      have hwr : IntKind.i64.wrap ((ns.length : Int) + 1) = (ns.length : Int) + 1 := by rw [IntKind.wrap_i64]; omega
      have hwT : IntKind.i64.wrap (T : Int) = (T : Int) := by rw [IntKind.wrap_i64]; omega
      obtain ⟨A2, c2, rfl, l2, m2⟩ := rdN_out q2
      obtain ⟨g, off, rfl, hg, x0⟩ := rdN_at q2 0 (by simp)
      obtain ⟨g9, off9, e9, -, x1⟩ := rdN_at q2 1 (by simp)
      injection e9 with e9
      injection e9 with e9 e8
      subst e9 e8
      rw [Nat.add_zero] at x0
      have x0 : w2.cell? ⟨g, off, none⟩ = some (.int .i64 (x : Int)) := x0
      have x1 : w2.cell? ⟨g, off + 1, none⟩ = some (.int .i64 (y : Int)) := x1
      obtain ⟨A1, c1, rfl, l1, m1⟩ := rdN_out hr2
      simp only [List.length_cons, List.length_nil, Nat.zero_add, Nat.reduceAdd] at l2 ⊢
      have hle : (x : Int) ≤ (y : Int) := by omega
      have hle2 : decide ((x : Int) ≤ (y : Int)) = true := by simpa using hle
      have HRR := Lib.hid hr2
      clear he he' q2 hmin hT hr2 hxy
      go_wp2_with fail
      go_region_held3 (fun wx => wx.cell? ⟨g, off, none⟩ = some (.int .i64 (x : Int)) ∧ wx.cell? ⟨g, off + 1, none⟩ = some (.int .i64 (y : Int))) (first | exact ⟨n0, n1⟩ | exact ⟨m0, m1⟩ | exact ⟨x0, x1⟩ | go_keep)
        (first | (go_at_call 26; refine (implExchanged_any _ (iz ns) _ _ _ (by exact HRR.out)).mono ?_; rintro e w7 ⟨v7, rfl, o7, b7⟩; rw [HX.out] at o7; have m0 := (b7.cell (p := ⟨g, off, none⟩) (by exact hg)).trans (by exact x0); have m1 := (b7.cell (p := ⟨g, off + 1, none⟩) (by exact hg)).trans (by exact x1)) | (go_at_call 30; refine (implAllFind_any _ (iz (exch ns x y)) _ _ (by exact o7.rd)).mono ?_; rintro e w8 ⟨rfl, b8⟩; rw [HFI.out]; have n0 := (b8.cell (p := ⟨g, off, none⟩) (by exact Nat.lt_of_lt_of_le hg b7.size)).trans m0; have n1 := (b8.cell (p := ⟨g, off + 1, none⟩) (by exact Nat.lt_of_lt_of_le hg b7.size)).trans m1))
      have hb7 := HB.out.drew.trans (b7.mono (by exact HB.out.size))
      have HB8 := Lib.hid (hb7.trans (b8.mono hb7.size))
      clear hb7 b7 b8 o7 m0 m1 n0 n1 x0 x1
      go_wp2
      go_ret
      exact ⟨rfl, HB8.out⟩
end Go.Proofs.Ytdpijiccolbljaa

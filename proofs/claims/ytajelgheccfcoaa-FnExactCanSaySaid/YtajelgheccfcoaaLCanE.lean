/- The walk of the law on the exactness of CanSay. -/
import Derived.Test.YtajelgheccfcoaaCan
import Derived.Test.YtajelgheccfcoaaSysL
import Derived.Test.YtajelgheccfcoaaSysM
import Derived.Test.YtajelgheccfcoaaArg
namespace Go.Proofs.Ytajelgheccfcoaa
open Go.RowKit

theorem brief_more {ps : List Sy} {b : Int} {l : List UInt8} (h : ∀ q ∈ ps, q.2.length ≤ 1048576) (hl : l.length ≤ 1048576) : Brief (ps ++ [(b, l)]) := fun q hq => by
  rcases List.mem_append.1 hq with hq | hq
  · have := h q hq; omega
  · rw [List.mem_singleton.1 hq]; show l.length < _; omega

set_option maxHeartbeats 1600000 in
set_option maxRecDepth 100000 in
theorem walk_FnExactCanSay (a0 : Int) (v1 : Value) (a2 : Int) (v3 : Value) (w : World) (_w0 : (Lit.int .i64 a0).wf = true) (w1 : ArgSayings w v1) (_w2 : (Lit.int .i64 a2).wf = true) (w3 : ArgText w v3) :
    Calls Try.prog 4 #[.int .i64 a0, v1, .int .i64 a2, v3] w fun e w' => e = .returned (.bool true) ∧ Below w.heap.size w w' := by
  obtain ⟨ps, hR, hm⟩ := w1
  obtain ⟨tl, rfl, htl⟩ := w3
  have HM := Lib.hid hm
  have HR := Lib.hid hR
  obtain ⟨A, c, rfl, -, -, -⟩ := hR
  clear _w0 _w2 hm
  have hsz : (tx tl).size = tl.length := tx_size tl
  by_cases h20 : 1048576 < tl.length
  · have hd : decide ((1048576 : Int) < ((tx tl).size : Int)) = true := by rw [hsz]; simp; omega
    have hd' : decide (1048576 < (tx tl).size) = true := by rw [hsz]; simp; omega
    clear hsz h20
    generalize tx tl = T at *
    go_enter Try.func4, Try.ntmps4
    go_wp2
    go_ret
    exact ⟨rfl, Below.refl _ _⟩
  have hd : decide ((1048576 : Int) < ((tx tl).size : Int)) = false := by rw [hsz]; simp; omega
  have hd' : decide (1048576 < (tx tl).size) = false := by rw [hsz]; simp; omega
  have htl2 : tl.length ≤ 1048576 := by omega
  have HC1 := Lib.hid (fun ps b u W => specCanSay_any a0 u ps b tl W)
  have HC2 := Lib.hid (fun ps b u W => implCanSay_any a0 u ps b tl W)
  clear hsz h20
  generalize hT : tx tl = T at *
  go_enter Try.func4, Try.ntmps4
  go_wp2_with fail
  with_reducible refine (szSayingS_any _ ps _ HR.out HM.out).mono ?_
  rintro e w2 ⟨⟨L, rfl, hL0, hL1, hbr⟩, b2⟩
  have hR2 := HR.out.below b2 (Nat.le_refl _)
  have HB2 := Lib.hid b2
  clear b2
  by_cases hn : L < 0
  · go_wp2
    go_ret
    exact ⟨rfl, HB2.out⟩
  · obtain ⟨hlen, hbf⟩ := hbr (by omega)
    have HBF := Lib.hid (brief_more (b := a2) hbf htl2)
    clear hbf hbr
    obtain ⟨F, hF⟩ : ∃ F, F = canI a0 ps (a2, tl) := ⟨_, rfl⟩
    have H1 : Hid (∀ (W : World) (u : Value), RdS W u ps → Calls Try.prog 17 #[.int .i64 a0, u, .int .i64 a2, .string T] W fun e w' => e = .returned (.bool F) ∧ Below W.heap.size W w') := fun W u h => by
      rw [hF]; exact HC1.out ps a2 u W HBF.out h
    have H2 : Hid (∀ (W : World) (u : Value), RdS W u ps → Calls Try.prog 18 #[.int .i64 a0, u, .int .i64 a2, .string T] W fun e w' => e = .returned (.bool F) ∧ Below W.heap.size W w') := fun W u h => by
      rw [hF]; exact HC2.out ps a2 u W HBF.out h hlen
    clear hF
    have HR2 := Lib.hid hR2
    clear hR2
    go_wp2_with fail
    with_reducible refine (toSayingS_any _ ps _ HR2.out hlen).mono ?_
    rintro e w3 ⟨u3, rfl, o3, b3⟩
    have HO3 := Lib.hid o3.rd
    have HB3 := Lib.hid (HB2.out.trans (b3.mono HB2.out.size))
    clear o3 b3
    go_wp2_with fail
    with_reducible refine (H1.out _ _ HO3.out).mono ?_
    rintro e w4 ⟨rfl, b4⟩
    have HB4 := Lib.hid (HB3.out.trans (b4.mono HB3.out.size))
    clear b4
    have HR4 := Lib.hid (HR.out.below HB4.out (Nat.le_refl _))
    go_wp2_with fail
    with_reducible refine (toSayingS_any _ ps _ HR4.out hlen).mono ?_
    rintro e w5 ⟨u5, rfl, o5, b5⟩
    have HO5 := Lib.hid o5.rd
    have HB5 := Lib.hid (HB4.out.trans (b5.mono HB4.out.size))
    clear o5 b5
    go_wp2_with fail
    with_reducible refine (H2.out _ _ HO5.out).mono ?_
    rintro e w6 ⟨rfl, b6⟩
    have HO6 := Lib.hid (HO5.out.below b6 (Nat.le_refl _))
    have HB6 := Lib.hid (HB5.out.trans (b6.mono HB5.out.size))
    clear b6
    have HR6 := Lib.hid (HR.out.below HB6.out (Nat.le_refl _))
    go_wp2_with fail
    with_reducible refine (toSayingS_any _ ps _ HR6.out hlen).mono ?_
    rintro e w7 ⟨u7, rfl, o7, b7⟩
    have HO7 := Lib.hid o7.rd
    have HO67 := Lib.hid (HO6.out.below b7 (Nat.le_refl _))
    have HB7 := Lib.hid (HB6.out.trans (b7.mono HB6.out.size))
    clear o7 b7
    go_wp2_with fail
    with_reducible refine (eqSayingS_true _ _ ps _ HO67.out HO7.out).mono ?_
    rintro e w8 ⟨rfl, b8⟩
    have HB8 := Lib.hid (HB7.out.trans (b8.mono HB7.out.size))
    clear b8
    go_wp2
    go_ret
    exact ⟨rfl, HB8.out⟩
end Go.Proofs.Ytajelgheccfcoaa

/- All ways, at the specification. -/
import Derived.Test.YtajelgheccfcoaaWaysP
import Derived.Test.YtajelgheccfcoaaSayOkS
namespace Go.Proofs.Ytajelgheccfcoaa
open Go.RowKit

set_option maxHeartbeats 6400000 in
set_option maxRecDepth 100000 in
theorem specWaysOf_any (p : Int) (v : Value) (ps : List Sy) (w : World) (hl : Brief ps) (h : RdS w v ps) :
    Calls Try.prog 19 #[.int .i64 p, v] w fun e w' => ∃ v', e = .returned v' ∧ Own w' w.heap.size w'.heap.size v' (waysI p ps) ∧ Below w.heap.size w w' := by
  obtain ⟨W, hW⟩ : ∃ W : World, W = w.alloc (.cells #[] 3) := ⟨_, rfl⟩
  have hbW : Below w.heap.size w W := by rw [hW]; exact (Below.refl _ _).alloc (Nat.le_refl _) _
  have ho0 : W.ownsRow w.heap.size 3 1 (.slice (some ⟨w.heap.size, 0, none⟩) 0 0) 0 [] := by rw [hW]; exact World.ownsRow_lit w #[] 0 (Nat.le_refl _) (by simp) (by simp)
  have hRW := h.below hbW (Nat.le_refl _)
  have hsW : W.heap.size = w.heap.size + 1 := by rw [hW]; simp
  have HS := Lib.hid (specSayingsOk_any p v ps W hl hRW)
  have HR := Lib.hid h
  have HW := Lib.hid hW; have HB := Lib.hid hbW; have HO0 := Lib.hid ho0
  have HWI : Hid (waysI p ps = if sayB p ps then waysL p ps (2 ^ p.toNat) else []) := rfl
  clear hW hbW ho0 hRW
  rcases Bool.eq_false_or_eq_true (sayB p ps) with hs | hs
  · obtain ⟨hp, h6, hok⟩ := sayB_yes hs
    obtain ⟨q, rfl⟩ := Int.eq_ofNat_of_zero_le (show 0 ≤ p by omega)
    have HSB := Lib.hid hs
    have hq5 : q ≤ 5 := by omega
    have HPW := Lib.hid (pow_le hq5)
    have hwr : IntKind.i64.wrap ((2 : Int) ^ q) = ((2 ^ q : Nat) : Int) := shl_wrap ⟨q, by omega⟩
    have HWI2 : Hid (waysI (q : Int) ps = waysL q ps (2 ^ q)) := by unfold Hid; rw [HWI.out, if_pos hs]; rfl
    have HOK := Lib.hid hok
    obtain ⟨N, hN⟩ : ∃ N, N = 2 ^ q := ⟨_, rfl⟩
    rw [← hN] at hwr HWI2 HPW
    have HT := Lib.hid (fun l k W (h : l.length < 4611686018427387904) => specSoFor_any q l k W h)
    obtain ⟨a1, cp, rfl, l1, m1, -⟩ := h
    obtain ⟨j0, hj, hy0, hy1, hy2⟩ := info_parts infoInt
    have HJ := Lib.hid (And.intro hj (And.intro hy0 (And.intro hy1 hy2)))
    clear hok hs hl hN hj hy0 hy1 hy2
    go_enter Try.func19, Try.ntmps19
    go_wp2_with fail
    go_step3
    go_wp2_with fail
    rw [← HW.out]
    with_reducible refine HS.out.mono ?_
    rintro e w' ⟨rfl, n0, rfl⟩
    rw [HSB.out]
    go_wp2_with fail
    go_step3
    go_wp2_with fail
    go_loopg [5, 6] N (fun g vo i wr => ∃ k : Nat, k ≤ N ∧ g = N - k ∧ i = .int .i64 k ∧ wr.ownsRow w.heap.size 3 1 vo (waysL q ps k).length ((waysL q ps k).map (Value.int .i64)) ∧ Below w.heap.size w wr ∧ w.heap.size ≤ wr.heap.size)
    case atStart => exact ⟨0, Nat.zero_le _, rfl, rfl, HO0.out, below_drewN HB.out _, by simp; omega⟩
    case round =>
      obtain ⟨k, hk, rfl, rfl, ho, hbk, hsk⟩ := hrel
      obtain ⟨wk, hwk⟩ : ∃ wk, wk = wr := ⟨_, rfl⟩
      subst hwk
      by_cases hlt : k < N
      · have hN32 := HPW.out
        have HLW := Lib.hid (length_waysL (p := q) (ps := ps) k)
        have HOW := Lib.hid ho
        have HBK := Lib.hid hbk
        have HSUC := Lib.hid (waysL_succ (p := q) (ps := ps) k)
        clear ho hbk
        generalize waysL q ps k = zs at *
        go_wp2_with fail
        go_loopg [7] ps.length (fun g2 i wr2 => ∃ j : Nat, j ≤ ps.length ∧ g2 = ps.length - j ∧ i = .int .i64 j ∧ Hid (wayB q (ps.take j) k = true) ∧ ∃ m, wr2 = wk.drewN m)
        case atStart => exact ⟨0, Nat.zero_le _, rfl, rfl, rfl, 0, rfl⟩
        case round =>
          obtain ⟨j, hj, rfl, rfl, hw, m, rfl⟩ := hrel
          by_cases hlj : j < ps.length
          · obtain ⟨a2, cp2, e9, l2, m2, r2⟩ := HR.out.below (below_drewN HBK.out m) (Nat.le_refl _)
            injection e9 with e1 e2 e3
            subst e1 e3
            obtain ⟨g1, o1, x, l, rfl, hg1, ⟨c0, c1⟩, Z1⟩ := rdS_at r2 j hlj
            clear r2
            obtain ⟨A, ha, hx0, hx1, hll⟩ := okB_yes (HOK.out _ (memS hlj Z1.out))
            have hll : l.length ≤ 40 := hll
            have hx0 : 0 ≤ x := hx0
            have hx1 : x ≤ (q : Int) - 1 := hx1
            obtain ⟨b, rfl⟩ := Int.eq_ofNat_of_zero_le hx0
            have hb4 : b ≤ 4 := by omega
            obtain ⟨y, hy⟩ : ∃ y, y = soB q l k := ⟨_, rfl⟩
            have T : Hid (∀ W, Calls Try.prog 42 #[.int .i64 (q : Int), .string (tx l), .int .i64 (k : Int)] W fun e w' => e = .returned (.bool y) ∧ ∃ m, w' = W.drewN m) := fun W => by rw [hy]; exact HT.out l k W (by omega)
            have hsnoc := wayB_snoc (p := q) (k := k) hlj
            rw [← Z1.out, hw.out] at hsnoc
            have hsnoc : wayB q (ps.take (j + 1)) k = (true && (soB q l k == bitB k (b : Int))) := hsnoc
            obtain ⟨D, hD⟩ : ∃ D, D = k / 2 ^ b := ⟨_, rfl⟩
            have hdiv : (k : Int) / 2 ^ b = (D : Int) := by rw [hD]; simp
            have HSN : Hid (wayB q (ps.take (j + 1)) k = (y == (D % 2 == 1))) := by
              unfold Hid
              rw [hsnoc, ← hy]
              unfold bitB
              rw [Int.toNat_natCast, ← hD]; rfl
            have HNO : Hid (wayB q (ps.take (j + 1)) k = false → waysL q ps (k + 1) = zs) := by
              intro h
              rw [HSUC.out, if_neg, List.append_nil]
              intro h2
              unfold wayB at h h2
              rw [List.all_eq_false] at h
              obtain ⟨z, hz, hz2⟩ := h
              exact hz2 (List.all_eq_true.1 h2 z (List.mem_of_mem_take hz))
            have HOW2 : Hid (∀ n, (wk.drewN n).ownsRow w.heap.size 3 1 u5 zs.length (zs.map (Value.int .i64))) := fun n => HOW.out
            have hD2 : D % 2 = 0 ∨ D % 2 = 1 := by omega
            clear hsnoc hy ha Z1 hx0 hx1 hll hD
            generalize tx l = S at *
            obtain ⟨w8, hw8⟩ : ∃ w8, w8 = wk.drewN m := ⟨_, rfl⟩
            rw [← hw8] at c0 c1 hg1 ⊢
            have HW8 : Hid (∀ n, w8.drewN n = wk.drewN (m + n)) := fun n => by rw [hw8, World.drewN_drewN]
            clear hw8
            cases y <;> obtain h2 | h2 := hD2
            all_goals
              have h2' : (D : Int) % 2 = _ := congrArg Int.ofNat h2
              go_wp2
              go_quiet ((go_at_call 42; with_reducible exact Calls.quiet_of (T.out _)))
              go_wp2
              first
                | (go_roundg (ps.length - (j + 1))
                   case measure => omega
                   case rel => exact ⟨j + 1, by omega, rfl, by go_num, by unfold Hid; rw [HSN.out, h2]; rfl, _, HW8.out _⟩)
                | (go_roundg (N - (k + 1))
                   case measure => omega
                   case rel => exact ⟨k + 1, by omega, rfl, by go_num, by rw [HNO.out (by rw [HSN.out, h2]; rfl), HW8.out]; exact HOW2.out _, by rw [HW8.out]; exact below_drewN HBK.out _, by rw [HW8.out]; exact hsk⟩)
          · have hj' : j = ps.length := by omega
            subst hj'
            have hwb : wayB q ps k = true := by have := hw.out; rwa [List.take_length] at this
            have HSU2 : Hid (waysL q ps (k + 1) = zs ++ [(k : Int)]) := by unfold Hid; rw [HSUC.out, if_pos hwb]
            obtain ⟨hji, hjy0, hjy1, hjy2⟩ := HJ.out
            have hso : (wk.drewN m).ownsRow w.heap.size 3 1 u5 zs.length (zs.map (Value.int .i64)) := HOW.out
            have hlz : zs.length ≤ 32 := by have := HLW.out; omega
            have hsm : w.heap.size ≤ (wk.drewN m).heap.size := hsk
            have HBM := Lib.hid (below_drewN HBK.out m)
            generalize wk.drewN m = w8 at *
            clear hwb hw
            go_wp2_with (first | (at_builtin; go_loud (refine wpList_append_own _ rfl _ _ 32 rfl w.heap.size 3 j0 (.int .i64 0) 1 8 Try.underlying32 hji hjy0 hjy1 hjy2 rfl (by decide) _ _ _ rfl (hso.alloc _) ⟨w8.heap.size, 0, none⟩ 1 1 [.int .i64 (k : Int)] rfl rfl (one_new _ _ _) ?c2 ?c3 ?c4 ?c5 ?_)) | go_in)
            case c2 => first | exact one_cell _ _ | rfl
            case c3 => unfold maxLen; omega
            case c4 => omega
            case c5 => first | omega | (simp; omega)
            intro v' w9 hown' hgr _
            have HRL := Lib.hid (app_rel hso HBM.out (Nat.le_refl _) hsm hown' hgr)
            clear hown' hgr hso hjy0 hjy1 hjy2 hji
            go_wp2
            go_roundg (N - (k + 1))
            case measure => omega
            case rel => exact ⟨k + 1, by omega, rfl, by go_num, by rw [HSU2.out]; exact HRL.out.1, HRL.out.2.1, HRL.out.2.2⟩
      · have hk' : k = N := by omega
        have HO : Hid (Own wk w.heap.size wk.heap.size u5 (waysI q ps)) := by
          unfold Hid
          rw [HWI2.out, ← hk']
          exact Own.new ho (Nat.le_refl _)
        have HBE := Lib.hid hbk
        clear ho hbk
        go_wp2
        try rw [Exit.noGoto_ret]
        go_ret
        exact ⟨_, rfl, HO.out, HBE.out⟩
  · have HSB := Lib.hid hs
    have HWI2 : Hid (waysI p ps = []) := by unfold Hid; rw [HWI.out, if_neg (by rw [hs]; decide)]
    clear hs hl
    obtain ⟨a1, cp, rfl, l1, m1, -⟩ := h
    go_enter Try.func19, Try.ntmps19
    go_wp2_with fail
    go_step3
    go_wp2_with fail
    rw [← HW.out]
    with_reducible refine HS.out.mono ?_
    rintro e w' ⟨rfl, n0, rfl⟩
    rw [HSB.out]
    go_wp2
    try rw [Exit.noGoto_ret]
    go_ret
    exact ⟨_, rfl, by rw [HWI2.out]; exact Own.new (HO0.out) (Nat.le_refl _), below_drewN HB.out _⟩
end Go.Proofs.Ytajelgheccfcoaa

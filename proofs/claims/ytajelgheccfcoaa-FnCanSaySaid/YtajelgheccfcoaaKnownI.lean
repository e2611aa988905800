/- What is known of each of the people, at the implementation. -/
import Derived.Test.YtajelgheccfcoaaWaysI
import Derived.Test.YtajelgheccfcoaaKnownP
namespace Go.Proofs.Ytajelgheccfcoaa
open Go.RowKit

theorem rd_nat {w : World} {v : Value} {ks : List Nat} (h : Rd w v (ks.map fun (k : Nat) => (k : Int))) : ∃ a cap, v = .slice a ks.length cap ∧ ks.length ≤ cap ∧ cap ≤ 9223372036854775807 ∧
    ∀ j (hj : j < ks.length), ∃ g off, a = some ⟨g, off, none⟩ ∧ g < w.heap.size ∧ w.cell? ⟨g, off + j, none⟩ = some (.int .i64 (ks[j] : Nat)) := by
  obtain ⟨a, cap, rfl, h1, h2, h3⟩ := h
  rw [List.length_map] at h1 h3 ⊢
  refine ⟨a, cap, rfl, h1, h2, fun j hj => ?_⟩
  obtain ⟨g, off, rfl, hg, hc⟩ := h3 (by omega)
  refine ⟨g, off, rfl, hg, ?_⟩
  rw [hc j hj]
  simp [List.getD, List.getElem?_eq_getElem hj]

theorem known_step (ks : List Nat) (n j : Nat) (h : j < n) : (knownL ks j ++ List.replicate (n - j) 0).set j (knownAt ks j) = knownL ks (j + 1) ++ List.replicate (n - (j + 1)) 0 := by
  have hl := length_knownL ks j
  rw [knownL_succ, show n - j = n - (j + 1) + 1 from by omega, List.replicate_succ, List.set_append_right _ _ (by omega), hl, Nat.sub_self, List.set_cons_zero, List.append_assoc, List.singleton_append]
theorem known_same (ks : List Nat) (n j : Nat) (h : j < n) (h0 : knownAt ks j = 0) : knownL ks j ++ List.replicate (n - j) 0 = knownL ks (j + 1) ++ List.replicate (n - (j + 1)) 0 := by
  rw [knownL_succ, h0, show n - j = n - (j + 1) + 1 from by omega, List.replicate_succ, List.append_assoc, List.singleton_append]
theorem length_known (ks : List Nat) (n j : Nat) (h : j ≤ n) : (knownL ks j ++ List.replicate (n - j) (0 : Int)).length = n := by
  rw [List.length_append, length_knownL, List.length_replicate]; omega

set_option maxHeartbeats 6400000 in
set_option maxRecDepth 100000 in
theorem implKnownOf_any (p : Int) (v : Value) (ps : List Sy) (w : World) (hl : Brief ps) (h : RdS w v ps) :
    Calls Try.prog 26 #[.int .i64 p, v] w fun e w' => ∃ v', e = .returned v' ∧ Own w' w.heap.size w'.heap.size v' (knownI p (waysN p ps)) ∧ Below w.heap.size w w' := by
  have T := implWaysOf_any p v ps w hl h
  rw [waysI_N] at T
  have HT := Lib.hid T
  have H32 : Hid (∀ k ∈ waysN p ps, k < 32) := waysN_32
  have HP5 : Hid (waysN p ps ≠ [] → 1 ≤ p ∧ p ≤ 5) := waysN_say
  have HLN := Lib.hid (length_waysN p ps)
  obtain ⟨a, cp, rfl, -, -, -⟩ := h
  obtain ⟨i0, hi, hz0, hz1, hz2⟩ := info_parts infoInt
  clear hl T
  generalize waysN p ps = ks at *
  go_enter Try.func26, Try.ntmps26
  go_wp2_with fail
  with_reducible refine HT.out.mono ?_
  rintro e w1 ⟨v1, rfl, ho, hb⟩
  obtain ⟨a1, c1, rfl, l1, m1, r1⟩ := rd_nat ho.rd
  have HB := Lib.hid hb
  have s1 := hb.size
  clear ho hb
  by_cases h0 : ks.length = 0
  · have hk0 : ks = [] := List.length_eq_zero_iff.1 h0
    have HK : Hid (knownI p ks = []) := by unfold Hid knownI; rw [if_pos hk0]
    have h0' : ((ks.length : Int) == 0) = true := by simp [h0]
    clear r1
    go_wp2
    go_ret
    exact ⟨_, rfl, by rw [HK.out]; exact ⟨World.ownsRow_nil _ _ _ _, fun k hk => (by cases hk)⟩, HB.out⟩
  · have hne : ks ≠ [] := fun e => h0 (by rw [e]; rfl)
    obtain ⟨hp1, hp5⟩ := HP5.out hne
    obtain ⟨n, rfl⟩ := Int.eq_ofNat_of_zero_le (show 0 ≤ p by omega)
    have HK : Hid (knownI (n : Int) ks = knownL ks n) := by unfold Hid knownI; rw [if_neg hne]; rfl
    have h0' : ((ks.length : Int) == 0) = false := by rw [beq_eq_false_iff_ne]; omega
    have hlp : 0 < ks.length := by omega
    obtain ⟨g, off, rfl, hg, x1⟩ := r1 0 hlp
    rw [Nat.add_zero] at x1
    have HKB := Lib.hid (knownAt_bits hlp)
    have hk032 := H32.out _ (List.getElem_mem hlp)
    have HAL := Lib.hid (allN_lt hk032)
    have HAS := Lib.hid (fun j hj => allN_snoc (k0 := ks[0]) (ks := ks) (j := j) hj)
    have HSS := Lib.hid (fun j hj => someN_snoc (ks := ks) (j := j) hj)
    have HSL : Hid (∀ j, someN (ks.take j) < 32) := fun j => someN_lt fun k hk => H32.out k (List.mem_of_mem_take hk)
    have HE : Hid (∀ j, j < ks.length → ∃ k, k < 32 ∧ w1.cell? ⟨g, off + j, none⟩ = some (.int .i64 (k : Nat)) ∧ allN ks[0] (ks.take (j + 1)) = allN ks[0] (ks.take j) &&& k ∧ someN (ks.take (j + 1)) = someN (ks.take j) ||| k) := by
      intro j hj
      obtain ⟨g', off', e1, _, x2⟩ := r1 j hj
      injection e1 with e1
      injection e1 with e1 e2
      subst e1 e2
      exact ⟨ks[j], H32.out _ (List.getElem_mem hj), x2, HAS.out j hj, HSS.out j hj⟩
    have HA0 : Hid (allN ks[0] (ks.take 0) = ks[0]) := rfl
    have HLN2 := HLN.out
    clear r1 hne
    generalize ks[0] = k0 at *
    go_wp2
    go_loop [6, 7, 23] (fun x y i => ∃ j : Nat, j ≤ ks.length ∧ i = .int .i64 j ∧ x = .int .i64 (allN k0 (ks.take j) : Nat) ∧ y = .int .i64 (someN (ks.take j) : Nat)) (fun _ _ i => ks.length - (intOf i).toNat)
    case atStart => exact ⟨0, Nat.zero_le _, rfl, by rw [HA0.out], rfl⟩
    case round =>
      obtain ⟨j, hj, rfl, rfl, rfl⟩ := hrel
      by_cases hlt : j < ks.length
      · obtain ⟨k, hk, x2, e1, e2⟩ := HE.out j hlt
        have hA := HAL.out (ks.take j)
        have hS := HSL.out j
        have HE1 := Lib.hid e1
        have HE2 := Lib.hid e2
        clear e1 e2
        generalize allN k0 (ks.take j) = A at *
        generalize someN (ks.take j) = S at *
        have b1 : bits BinOp.and IntKind.i64 (A : Int) (k : Int) = ((A &&& k : Nat) : Int) := and_bits ⟨A, hA⟩ ⟨k, hk⟩
        have b2 : bits BinOp.or IntKind.i64 (S : Int) (k : Int) = ((S ||| k : Nat) : Int) := or_bits ⟨S, hS⟩ ⟨k, hk⟩
        generalize A &&& k = A2 at *
        generalize S ||| k = S2 at *
        go_wp2
        go_round
        case rel => exact ⟨j + 1, by omega, by go_num, by rw [HE1.out], by rw [HE2.out]⟩
        case measure => simp [intOf]; omega
      · have hj' : j = ks.length := by omega
        subst hj'
        rw [List.take_length] at *
        have hA := HAL.out ks
        have hS : someN ks < 32 := by have := HSL.out ks.length; rwa [List.take_length] at this
        have hn5 : n ≤ 5 := by omega
        generalize allN k0 ks = A at *
        generalize someN ks = S at *
        go_wp2_with (at_make; refine wpList_make_full _ rfl _ _ 32 rfl w1.heap.size 3 i0 (.int .i64 0) 1 Try.underlying32 hi hz0 hz1 _ _ _ _ n rfl rfl rfl rfl ?c1 ?c2 ?c3 ?_)
        case c1 => omega
        case c2 => unfold maxLen; omega
        intro w2 hown hgr
        have e0 : (madeCells #[Value.int .i64 0] n).toList = (knownL ks 0 ++ List.replicate (n - 0) (0 : Int)).map (Value.int .i64) := (toList_madeCells_one _ _).trans (by simp [knownL])
        rw [e0] at hown
        have hb1 : Below w1.heap.size w1 w2 := (Below.refl _ _).grown hgr (Nat.le_refl _) (fun k hk => by cases hk)
        have hs2 := (hown.lt _ rfl).2
        have E0 := Lib.hid e0
        clear e0 hz0 hz1 hz2 hi hgr
        go_wp2
        go_loopw [38] (fun i wr => ∃ j : Nat, j ≤ n ∧ i = .int .i64 j ∧ wr.ownsRow w1.heap.size 3 1 (.slice (some ⟨w1.heap.size, 0, none⟩) n n) n ((knownL ks j ++ List.replicate (n - j) (0 : Int)).map (Value.int .i64)) ∧ Below w1.heap.size w1 wr)
          (fun i _ => n - (intOf i).toNat)
        case atStart => exact ⟨0, Nat.zero_le _, rfl, hown, hb1⟩
        case round =>
          clear hown hb1
          obtain ⟨j, hj, rfl, hr, hbr⟩ := hrel
          by_cases hlt : j < n
          · have hkn := HKB.out j
            have hstep := known_step ks n j hlt
            have HSAME := Lib.hid (known_same ks n j hlt)
            have hb1 : bits BinOp.and IntKind.i64 ((A : Int) / 2 ^ j) 1 = ((A / 2 ^ j % 2 : Nat) : Int) := shift_bit ⟨A, hA⟩ ⟨j, by omega⟩
            have hb2 : bits BinOp.and IntKind.i64 ((S : Int) / 2 ^ j) 1 = ((S / 2 ^ j % 2 : Nat) : Int) := shift_bit ⟨S, hS⟩ ⟨j, by omega⟩
            have hA2 : A / 2 ^ j % 2 = 0 ∨ A / 2 ^ j % 2 = 1 := by omega
            have hS2 : S / 2 ^ j % 2 = 0 ∨ S / 2 ^ j % 2 = 1 := by omega
            obtain ⟨u, hc⟩ := own_cell hr j hlt
            have hfr := hr.frozenAt j
            have hj5 : j ≤ 4 := by omega
            generalize A / 2 ^ j % 2 = a at *
            generalize S / 2 ^ j % 2 = s at *
            obtain rfl | rfl := hA2
            · obtain rfl | rfl := hS2
              · have HK0 : Hid (knownAt ks j = 0) := hkn
                have HR := Lib.hid hr
                have HBR := Lib.hid hbr
                clear hkn hstep hr hbr
                go_wp2
                go_roundw
                case rel => exact ⟨j + 1, by omega, by go_num, by rw [← HSAME.out HK0.out]; exact HR.out, HBR.out⟩
                case measure => simp [intOf]; omega
              · have hK2 : knownAt ks j = 2 := hkn
                have hst := hr.stored j (.int .i64 2)
                rw [← List.map_set, ← hK2, hstep] at hst
                have hb9 := hbr.grown hst.2 hbr.size (fun q hq => by injection hq with hq; omega)
                rw [hK2] at hst hb9
                have HST := Lib.hid hst.1
                have HB9 := Lib.hid hb9
                clear hkn hstep hst hb9 hr hbr hK2
                go_wp2
                go_roundw
                case rel => exact ⟨j + 1, by omega, by go_num, HST.out, HB9.out⟩
                case measure => simp [intOf]; omega
            · have hK2 : knownAt ks j = 1 := hkn
              have hst := hr.stored j (.int .i64 1)
              rw [← List.map_set, ← hK2, hstep] at hst
              have hb9 := hbr.grown hst.2 hbr.size (fun q hq => by injection hq with hq; omega)
              rw [hK2] at hst hb9
              have HST := Lib.hid hst.1
              have HB9 := Lib.hid hb9
              clear hkn hstep hst hb9 hr hbr hK2 hS2
              go_wp2
              go_roundw
              case rel => exact ⟨j + 1, by omega, by go_num, HST.out, HB9.out⟩
              case measure => simp [intOf]; omega
          · have hj' : j = n := by omega
            have HO : Hid (Own wr w.heap.size wr.heap.size (.slice (some ⟨w1.heap.size, 0, none⟩) n n) (knownI (n : Int) ks)) := by
              unfold Hid
              rw [HK.out]
              rw [hj', Nat.sub_self, List.replicate_zero, List.append_nil] at hr
              refine (Own.new (lo := w1.heap.size) ?_ (Nat.le_refl _)).wide s1 (Nat.le_refl _)
              rw [length_knownL]; exact hr
            have HBE := Lib.hid (HB.out.trans (hbr.mono s1))
            clear hr hbr
            go_wp2
            go_ret
            exact ⟨_, rfl, HO.out, HBE.out⟩
end Go.Proofs.Ytajelgheccfcoaa

/- The next order, as the reference finds it: the walk. -/
import Derived.Test.YtdpijiccolbljaaOrdP
import Derived.Test.YtdpijiccolbljaaSortP
import Derived.Test.YtdpijiccolbljaaClone
namespace Go.Proofs.Ytdpijiccolbljaa
open Go.RowKit

theorem turned_trans3 {lo hi : Nat} {a b c : World} (h : Turned lo hi a b) (k : Turned lo hi b c) : Turned lo hi a c :=
  ⟨k.os.trans h.os, k.tape.trans h.tape, k.output.trans h.output, Nat.le_trans h.size k.size, fun i hi hne => (k.block i (Nat.lt_of_lt_of_le hi h.size) hne).trans (h.block i hi hne)⟩
theorem findK_lt {os : List Nat} : ∀ {m k : Nat}, findK os m = some k → k < m ∧ nx os k ≤ nx os (k + 1)
  | 0, _, h => by cases h
  | m + 1, k, h => by
    unfold findK at h
    split at h
    · obtain ⟨h1, h2⟩ := findK_lt h
      exact ⟨by omega, h2⟩
    · injection h with h
      subst h
      exact ⟨by omega, by omega⟩
theorem findJ_lt {os : List Nat} {k : Nat} (hk : nx os k ≤ nx os (k + 1)) : ∀ {m : Nat}, k + 1 ≤ m → k + 1 ≤ findJ os k m ∧ findJ os k m ≤ m
  | 0, h => absurd h (by omega)
  | m + 1, h => by
    unfold findJ
    split
    · rename_i hlt
      have hne : ¬ m = k := fun e => by subst e; omega
      have := findJ_lt hk (m := m) (by omega)
      omega
    · exact ⟨h, Nat.le_refl _⟩
theorem length_swap (os : List Nat) (k j : Nat) : (swap os k j).length = os.length := by simp [swap]
/-- The row when n of the numbers behind k are turned round. -/
def revAt (sw : List Nat) (k n : Nat) : List Nat := sw.take (k + 1) ++ ((sw.drop (k + 1)).reverse.take n ++ sw.drop (k + 1 + n))
theorem length_revAt (sw : List Nat) (k n : Nat) (h : k + 1 + n ≤ sw.length) : (revAt sw k n).length = sw.length := by
  simp [revAt]; omega
theorem revAt_0 (sw : List Nat) (k : Nat) : revAt sw k 0 = sw := by simp [revAt]
theorem revAt_all (sw : List Nat) (k : Nat) (h : k + 1 ≤ sw.length) : revAt sw k (sw.length - (k + 1)) = revB sw k := by
  unfold revAt revB
  have e1 : (sw.drop (k + 1)).reverse.take (sw.length - (k + 1)) = (sw.drop (k + 1)).reverse := List.take_of_length_le (by rw [List.length_reverse, List.length_drop]; exact Nat.le_refl _)
  have e2 : sw.drop (k + 1 + (sw.length - (k + 1))) = [] := List.drop_of_length_le (by omega)
  rw [e1, e2, List.append_nil]
theorem revAt_step (sw : List Nat) (k n : Nat) (h : k + 1 + n < sw.length) : (revAt sw k n).set (k + 1 + n) (nx (sw.drop (k + 1)) (sw.length - (k + 1) - 1 - n)) = revAt sw k (n + 1) := by
  unfold revAt
  have hd := dropN_cons sw (k + 1 + n) h
  have h1 : (sw.take (k + 1)).length = k + 1 := by rw [List.length_take]; omega
  have h2 : ((sw.drop (k + 1)).reverse.take n).length = n := by rw [List.length_take, List.length_reverse, List.length_drop]; omega
  have hr : (sw.drop (k + 1)).reverse.take (n + 1) = (sw.drop (k + 1)).reverse.take n ++ [nx (sw.drop (k + 1)) (sw.length - (k + 1) - 1 - n)] := by
    rw [takeN_snoc _ n (by simp; omega)]
    congr 2
    rw [nx_getD, nx_getD]
    simp only [List.getD]
    rw [List.getElem?_reverse (by simp; omega)]
    rw [List.length_drop]
  rw [hr, hd, List.set_append_right _ _ (by omega), h1, show k + 1 + n - (k + 1) = n by omega, List.set_append_right _ _ (by omega), h2, Nat.sub_self]
  rw [show k + 1 + (n + 1) = k + 1 + n + 1 by omega]
  simp
theorem src_cells {w : World} {g off n c : Nat} {ns : List Nat} (h : Rd w (.slice (some ⟨g, off, none⟩) n c) (iz ns)) (hn : 0 < ns.length) (W : World) (hb : Below w.heap.size w W) : ∀ j u, ((iz ns).map (Value.int .i64))[j]? = some u → W.cell? ((⟨g, off, none⟩ : Addr).add j) = some u := by
  intro j u hu
  have e : (⟨g, off, none⟩ : Addr).add j = ⟨g, off + j, none⟩ := by unfold Addr.add; split <;> simp_all
  obtain ⟨a', cap', e1, -, -, h3⟩ := h
  injection e1 with e1 e2 e3
  rw [length_iz] at h3
  obtain ⟨g', off', e4, hg, hc⟩ := h3 hn
  rw [← e1] at e4
  injection e4 with e4
  injection e4 with e4 e5
  subst e4 e5
  rw [List.getElem?_map] at hu
  by_cases hj : j < (iz ns).length
  · rw [List.getElem?_eq_getElem hj] at hu
    injection hu with hu
    rw [length_iz] at hj
    rw [e, hb.cell (p := ⟨g, off + j, none⟩) hg, hc j hj, ← hu]
    simp [List.getD, List.getElem?_eq_getElem (show j < (iz ns).length by rw [length_iz]; exact hj)]
  · rw [List.getElem?_eq_none (by omega)] at hu; cases hu
theorem int_cells (zs : List Int) : ∀ u ∈ zs.map (Value.int .i64), u.oneCell' = true := fun u hu => by obtain ⟨_, _, rfl⟩ := List.mem_map.1 hu; rfl
theorem rd_drop {w : World} {g off n c k : Nat} {ns : List Nat} (h : Rd w (.slice (some ⟨g, off, none⟩) n c) (iz ns)) (hk : k < ns.length) : Rd w (.slice (some ⟨g, off + k, none⟩) (n - k) (c - k)) (iz (ns.drop k)) := by
  obtain ⟨a', c', e, h1, h2, h3⟩ := h
  injection e with e1 e2 e3
  subst e3
  rw [length_iz] at h1 h3 e2
  subst e2
  have hl : (iz (ns.drop k)).length = ns.length - k := by rw [length_iz, List.length_drop]
  refine ⟨_, c - k, by rw [hl], by omega, by omega, fun h0 => ?_⟩
  rw [hl] at h0 ⊢
  obtain ⟨g', off', e4, hg, hc⟩ := h3 (by omega)
  rw [← e1] at e4
  injection e4 with e4
  injection e4 with e4 e5
  subst e4 e5
  refine ⟨g, off + k, rfl, hg, fun j hj => ?_⟩
  have := hc (k + j) (by omega)
  rw [Nat.add_assoc, this, getD_iz, getD_iz, nx_getD, nx_getD]
  simp [List.getD]

set_option maxHeartbeats 6400000 in
set_option maxRecDepth 100000 in
theorem l10Next_any (v : Value) (os : List Nat) (w : World) (h : Rd w v (iz os)) (h1 : 1 ≤ os.length) (h7 : os.length ≤ 7) :
    Calls Try.prog 54 #[v] w fun e w' => (∃ v' b, e = .returned (.tuple #[v', .bool b]) ∧ (nextN os = none → b = false) ∧ (∀ p, nextN os = some p → b = true ∧ Own w' w.heap.size w'.heap.size v' (iz p))) ∧ Below w.heap.size w w' := by
  obtain ⟨i0, hi0, hz0, hz1, hz2⟩ := info_parts infoInt
  obtain ⟨a1, c1, rfl, l1, m1⟩ := rdN_out h
  obtain ⟨g, off, rfl, -, -⟩ := rdN_at h 0 (by omega)
  have ho0 : (w.alloc (.cells #[] 3)).ownsRow w.heap.size 3 1 (.slice (some ⟨w.heap.size, 0, none⟩) 0 0) 0 [] := World.ownsRow_lit w #[] 0 (Nat.le_refl _) (by simp) (by simp)
  have hb0 : Below w.heap.size w (w.alloc (.cells #[] 3)) := (Below.refl _ _).alloc (Nat.le_refl _) _
  have HSC := Lib.hid (src_cells h (by omega) _ hb0)
  obtain ⟨N, hN⟩ : ∃ N, os.length = N + 1 := ⟨os.length - 1, by omega⟩
  have HN := Lib.hid hN
  have hll : ((iz os).map (Value.int .i64)).length = N + 1 := by rw [List.length_map, length_iz, hN]
  rw [hN] at l1 h7 ⊢
  have HLL := Lib.hid hll
  clear h h1 hN hll
  go_enter Try.func54, Try.ntmps54
  go_wp2_with (at_builtin; go_loud (refine wpList_append_own _ rfl _ _ 22 rfl w.heap.size 3 i0 (.int .i64 0) 1 8 Try.underlying22 hi0 hz0 hz1 hz2 rfl (by decide) _ 0 [] rfl ho0 ⟨g, off, none⟩ (N + 1) c1 ((iz os).map (Value.int .i64)) rfl ?n0 ?n1 ?n2 ?c1 ?c2 ?c3 ?_))
  case n0 => rw [HLL.out, Nat.mul_one]
  case n1 => exact HSC.out
  case n2 => exact int_cells _
  case c1 => unfold maxLen; omega
  case c2 => omega
  case c3 => simp
  intro v' w3 hown hgr _
  have hB : Below w.heap.size w w3 := hb0.grown hgr (by simp) (fun k hk => by have := (ho0.lt k hk).1; omega)
  have o3 : Own w3 w.heap.size w3.heap.size v' (iz os) := Own.new (by rw [length_iz, HN.out]; simpa using hown) (Nat.le_refl _)
  obtain ⟨A, c, rfl⟩ := own_form o3
  obtain ⟨gn, rfl⟩ := own_block o3 (by rw [length_iz, HN.out]; omega)
  rw [length_iz, HN.out] at o3 ⊢
  have HO := Lib.hid o3
  have HB := Lib.hid hB
  have hs3 : w.heap.size ≤ w3.heap.size := hB.size
  have hcn : N + 1 ≤ c := by
    obtain ⟨_, _, e, h2, -, -⟩ := o3.rd
    injection e with e1 e2 e3
    rw [length_iz, HN.out] at h2; omega
  clear hown hgr hb0 ho0 HSC o3 hB
  have hidx : ∀ k, k < N + 1 → w3.cell? ⟨gn, k, none⟩ = some (.int .i64 ((nx os k : Nat) : Int)) := fun k hk => by
    have := HO.out.cellAt k (by rw [length_iz, HN.out]; exact hk)
    rwa [getD_iz] at this
  have HX := Lib.hid hidx
  clear hidx
  go_wp2_with fail
  go_loopg [5] N (fun gk s5 wr => ∃ m : Nat, gk = m ∧ m ≤ N ∧ s5 = .int .i64 ((m : Int) - 1) ∧ Hid (findK os N = findK os m) ∧ ∃ q, wr = w3.drewN q)
  case atStart => exact ⟨N, rfl, Nat.le_refl _, by congr 1; omega, rfl, 0, rfl⟩
  case round =>
    obtain ⟨m, hg, hm, rfl, hfk, q, rfl⟩ := hrel
    have HG := Lib.hid hg
    clear hg
    rcases m with _ | m
    · have HNO : Hid (nextN os = none) := by
        unfold Hid nextN
        rw [show os.length - 1 = N by rw [HN.out]; rfl, hfk.out]; rfl
      have hm1 : ((0 : Nat) : Int) - 1 = -1 := rfl
      rw [hm1]
      clear hm1
      go_wp2
      go_quiet (fail)
      go_wp2
      go_ret2
      exact ⟨⟨_, _, rfl, fun _ => rfl, fun p hp => by rw [HNO.out] at hp; cases hp⟩, below_drewN HB.out _⟩
    · have e1 : ((m + 1 : Nat) : Int) - 1 = (m : Int) := by omega
      rw [e1]
      have x0 := HX.out m (by omega)
      have x1 := HX.out (m + 1) (by omega)
      have HFU : Hid (findK os (m + 1) = if nx os (m + 1) < nx os m then findK os m else some m) := rfl
      obtain ⟨a, ha⟩ : ∃ a, a = nx os m := ⟨_, rfl⟩
      obtain ⟨b, hb⟩ : ∃ b, b = nx os (m + 1) := ⟨_, rfl⟩
      rw [← ha] at x0
      rw [← hb] at x1
      rw [← ha, ← hb] at HFU
      have HA := Lib.hid ha
      have HBB := Lib.hid hb
      have hwr : IntKind.i64.wrap ((m : Int) + 1) = (m : Int) + 1 := by rw [IntKind.wrap_i64]; omega
      have hm0 : (0 : Int) ≤ m := by omega
      have hi0' : (m : Int) < (N : Int) + 1 := by omega
      have hi1' : (m : Int) + 1 < (N : Int) + 1 := by omega
      have hn0' : m < N + 1 := by omega
      have hn1' : m + 1 < N + 1 := by omega
      have hdm : decide ((0 : Int) ≤ (m : Int)) = true := by simp
      clear e1 ha hb
      by_cases hlt : b < a
      · have hlt' : (b : Int) < a := by omega
        have HF2 : Hid (findK os N = findK os m) := by unfold Hid; rw [hfk.out, HFU.out, if_pos hlt]
        go_wp2
        go_quiet (fail)
        go_wp2
        go_roundg m
        case measure => have := HG.out; omega
        case rel => exact ⟨m, rfl, by omega, by go_num, HF2, _, rfl⟩
      · have hlt' : ¬ (b : Int) < a := by omega
        have HF2 : Hid (findK os N = some m) := by unfold Hid; rw [hfk.out, HFU.out, if_neg hlt]
        go_wp2
        go_quiet (fail)
        go_wp2
        obtain ⟨hmN, hle⟩ := findK_lt HF2.out
        have HNX : Hid (nextN os = some (revB (swap os m (findJ os m N)) m)) := by
          unfold Hid nextN
          rw [show os.length - 1 = N by rw [HN.out]; rfl, HF2.out]
        have HJL := Lib.hid (findJ_lt hle (m := N) (by omega))
        clear hle x1 HFU hlt hlt' hfk
        go_loopg [6] N (fun gj s6 wr => ∃ j : Nat, gj = j ∧ m + 1 ≤ j ∧ j ≤ N ∧ s6 = .int .i64 (j : Int) ∧ Hid (findJ os m N = findJ os m j) ∧ ∃ q, wr = w3.drewN q)
        case atStart => exact ⟨N, rfl, by omega, Nat.le_refl _, rfl, rfl, _, rfl⟩
        case round =>
          obtain ⟨j, hgj, hj1, hj2, rfl, hfj, q, rfl⟩ := hrel
          have HGJ := Lib.hid hgj
          clear hgj
          obtain ⟨i, rfl⟩ : ∃ i, j = i + 1 := ⟨j - 1, by omega⟩
          have y1 := HX.out (i + 1) (by omega)
          have HFV : Hid (findJ os m (i + 1) = if nx os (i + 1) < nx os m then findJ os m i else i + 1) := rfl
          obtain ⟨d, hd⟩ : ∃ d, d = nx os (i + 1) := ⟨_, rfl⟩
          rw [← hd] at y1
          rw [← hd, ← HA.out] at HFV
          have HDD := Lib.hid hd
          have hi3 : (i : Int) + 1 < (N : Int) + 1 := by omega
          have hi4 : i + 1 < N + 1 := by omega
          clear hd
          by_cases hlt : d < a
          · have hlt' : (d : Int) < a := by omega
            have hne : ¬ i = m := fun e => by
              have := HJL.out.1
              rw [hfj.out, HFV.out, if_pos hlt, e] at this
              have h2 : findJ os m m ≤ m := by
                have : ∀ q, findJ os m q ≤ q := fun q => by
                  induction q with
                  | zero => exact Nat.le_refl _
                  | succ q ih => unfold findJ; split <;> omega
                exact this m
              omega
            have HF3 : Hid (findJ os m N = findJ os m i) := by unfold Hid; rw [hfj.out, HFV.out, if_pos hlt]
            go_wp2
            go_quiet (fail)
            go_wp2
            go_roundg i
            case measure => have := HGJ.out; omega
            case rel => exact ⟨i, rfl, by omega, by omega, by go_num, HF3, _, rfl⟩
          · have hlt' : ¬ (d : Int) < a := by omega
            have HF3 : Hid (findJ os m N = i + 1) := by unfold Hid; rw [hfj.out, HFV.out, if_neg hlt]
            go_wp2
            go_quiet (fail)
            rw [World.drewN_drewN]
            have HO4 := Lib.hid (HO.out.drewN (q + nq))
            have HB4 := Lib.hid (below_drewN HB.out (q + nq))
            have hs4 : w3.heap.size ≤ (w3.drewN (q + nq)).heap.size := Nat.le_refl _
            have hs40 : w.heap.size ≤ (w3.drewN (q + nq)).heap.size := hs3
            generalize w3.drewN (q + nq) = w4 at *
            obtain ⟨sw, hsw⟩ : ∃ sw, sw = swap os m (i + 1) := ⟨_, rfl⟩
            have HNX2 : Hid (nextN os = some (revB sw m)) := by unfold Hid; rw [HNX.out, HF3.out, hsw]
            have hswl : sw.length = N + 1 := by rw [hsw, length_swap, HN.out]
            have HSL := Lib.hid hswl
            have hol : (iz os).length = N + 1 := by rw [length_iz, HN.out]
            have z0 := HO4.out.cellAt m (by rw [hol]; omega)
            have z1 := HO4.out.cellAt (i + 1) (by rw [hol]; omega)
            rw [getD_iz, ← HA.out] at z0
            rw [getD_iz, ← HDD.out] at z1
            have f0 := HO4.out.frozenAt m hol.symm
            have f1 := HO4.out.frozenAt (i + 1) hol.symm
            have s1 := HO4.out.set m (d : Int) hol.symm
            have hol2 : ((iz os).set m (d : Int)).length = N + 1 := by rw [List.length_set, hol]
            have z2 := s1.1.cellAt (i + 1) (by rw [hol2]; omega)
            have f2 := s1.1.frozenAt (i + 1) hol2.symm
            have s2 := s1.1.set (i + 1) (a : Int) hol2.symm
            rw [iz_set, iz_set, HDD.out, HA.out, show (os.set m (nx os (i + 1))).set (i + 1) (nx os m) = sw from hsw.symm, ← HDD.out, ← HA.out] at s2
            generalize ((iz os).set m (d : Int)).getD (i + 1) 0 = z2v at z2
            have hgn : gn < w3.heap.size := HO4.out.2 gn rfl
            have HS := Lib.hid s2.1
            have HT := Lib.hid (turned_trans3 s1.2 s2.2)
            have hr8 := rd_drop s2.1.rd (k := m + 1) (by rw [hswl]; omega)
            have hb8 : Below w4.heap.size ((w4.setCell ⟨gn, m, none⟩ (.int .i64 (d : Int))).setCell ⟨gn, i + 1, none⟩ (.int .i64 (a : Int))) (((w4.setCell ⟨gn, m, none⟩ (.int .i64 (d : Int))).setCell ⟨gn, i + 1, none⟩ (.int .i64 (a : Int))).alloc (.cells #[] 3)) := (Below.refl _ _).alloc (by simp) _
            have HSC := Lib.hid (src_cells hr8 (by rw [List.length_drop, hswl]; omega) _ (by simpa using hb8))
            have ho8 : (((w4.setCell ⟨gn, m, none⟩ (.int .i64 (d : Int))).setCell ⟨gn, i + 1, none⟩ (.int .i64 (a : Int))).alloc (.cells #[] 3)).ownsRow w4.heap.size 3 1 (.slice (some ⟨w4.heap.size, 0, none⟩) 0 0) 0 [] := by
              have := World.ownsRow_lit (base := w4.heap.size) (e := 3) (size := 1) ((w4.setCell ⟨gn, m, none⟩ (.int .i64 (d : Int))).setCell ⟨gn, i + 1, none⟩ (.int .i64 (a : Int))) #[] 0 (by simp) (by simp) (by simp)
              simpa using this
            have HB8 := Lib.hid hb8
            have hdl : ((iz (sw.drop (m + 1))).map (Value.int .i64)).length = N - m := by rw [List.length_map, length_iz, List.length_drop, hswl]; omega
            have HDL := Lib.hid hdl
            have hcm : ¬ c = m + 1 := by omega
            have hm1n : (m : Int) + 1 ≤ (N : Int) + 1 := by omega
            have hm1n2 : m + 1 ≤ N + 1 := by omega
            have hmn2 : m ≤ N := by omega
            clear s1 s2 hr8 hb8 hdl hswl hsw hol hol2 HX y1 x0 HO HB HFV HNX HF2 HJL HF3
            go_wp2_with (at_builtin; go_loud (refine wpList_append_own _ rfl _ _ 22 rfl w4.heap.size 3 i0 (.int .i64 0) 1 8 Try.underlying22 hi0 hz0 hz1 hz2 rfl (by decide) _ 0 [] rfl ho8 ⟨gn, 0 + (m + 1), none⟩ (N - m) (c - (m + 1)) ((iz (sw.drop (m + 1))).map (Value.int .i64)) ?nr ?n0 ?n1 ?n2 ?c1 ?c2 ?c3 ?_))
            case nr => first | rfl | (rw [Nat.zero_add]; rfl) | (simp; done)
            case n0 => rw [HDL.out, Nat.mul_one]
            case n1 => exact HSC.out
            case n2 => exact int_cells _
            case c1 => unfold maxLen; omega
            case c2 => omega
            case c3 => simp
            intro v8 w6 hown8 hgr8 _
            have hB6 : Below w4.heap.size ((w4.setCell ⟨gn, m, none⟩ (.int .i64 (d : Int))).setCell ⟨gn, i + 1, none⟩ (.int .i64 (a : Int))) w6 := by
              have h0 : Below w4.heap.size ((w4.setCell ⟨gn, m, none⟩ (.int .i64 (d : Int))).setCell ⟨gn, i + 1, none⟩ (.int .i64 (a : Int))) (((w4.setCell ⟨gn, m, none⟩ (.int .i64 (d : Int))).setCell ⟨gn, i + 1, none⟩ (.int .i64 (a : Int))).alloc (.cells #[] 3)) := HB8.out
              exact h0.grown hgr8 (by simp) (fun k hk => by have := (ho8.lt k hk).1; omega)
            have o8 : Own w6 w4.heap.size w6.heap.size v8 (iz (sw.drop (m + 1))) := Own.new (by
              have e : (iz (sw.drop (m + 1))).length = N - m := by have := HDL.out; rwa [List.length_map] at this
              rw [e]; simpa using hown8) (Nat.le_refl _)
            have osw := HS.out.below hB6 hs4
            have hs6 : w4.heap.size ≤ w6.heap.size := by have := hB6.size; simpa using this
            have hbel6 := (below_turned HB4.out HT.out (Nat.le_refl _) hs40).trans (hB6.mono (by simpa using hs40))
            obtain ⟨A8, c8, rfl⟩ := own_form o8
            have e8 : (iz (sw.drop (m + 1))).length = N - m := by have := HDL.out; rwa [List.length_map] at this
            rw [e8] at o8 ⊢
            obtain ⟨g8, rfl⟩ := own_block o8 (by rw [e8]; omega)
            obtain ⟨T, hT⟩ : ∃ T, T = N - m := ⟨_, rfl⟩
            rw [← hT] at o8 ⊢
            have hT1 : m + T ≤ N := by omega
            have hT2 : N ≤ m + T := by omega
            have hTs : sw.length - (m + 1) = T := by have := HSL.out; omega
            have HO8 := Lib.hid o8
            have HOW : Hid (Own w6 w.heap.size w3.heap.size (.slice (some ⟨gn, 0, none⟩) (N + 1) c) (iz (revAt sw m 0))) := by unfold Hid; rw [revAt_0]; exact osw
            have HB6 := Lib.hid hbel6
            have HTS := Lib.hid hTs
            have hs36 : w3.heap.size ≤ w6.heap.size := Nat.le_trans hs4 hs6
            clear hown8 hgr8 hB6 o8 osw hbel6 e8 HS HT HSC ho8 HB8 HDL z0 z1 z2 f0 f1 f2 hz0 hz1 hz2 hi0 hT hTs
            go_wp2
            go_loopg [9] T (fun gz s9 wr => ∃ n : Nat, n ≤ T ∧ gz = T - n ∧ s9 = .int .i64 (n : Int) ∧ Own wr w.heap.size w3.heap.size (.slice (some ⟨gn, 0, none⟩) (N + 1) c) (iz (revAt sw m n)) ∧ Own wr w4.heap.size w6.heap.size (.slice (some ⟨g8, 0, none⟩) T c8) (iz (sw.drop (m + 1))) ∧ Below w.heap.size w wr ∧ w6.heap.size ≤ wr.heap.size)
            case atStart => exact ⟨0, Nat.zero_le _, rfl, rfl, HOW.out, HO8.out, HB6.out, Nat.le_refl _⟩
            case round =>
              clear HOW HO8 HB6
              obtain ⟨n, hn, rfl, rfl, ho, ho8, hb, hs⟩ := hrel
              by_cases hnT : n < T
              · have htl : (iz (sw.drop (m + 1))).length = T := by rw [length_iz, List.length_drop, HTS.out]
                have hrl : (iz (revAt sw m n)).length = N + 1 := by rw [length_iz, length_revAt sw m n (by have := HSL.out; omega), HSL.out]
                have t0 := ho8.cellAt (T - 1 - n) (by rw [htl]; omega)
                have r0 := ho.cellAt (m + 1 + n) (by rw [hrl]; omega)
                have q0 := ho.frozenAt (m + 1 + n) hrl.symm
                rw [getD_iz] at t0
                have s1 := ho.set (m + 1 + n) ((nx (sw.drop (m + 1)) (T - 1 - n) : Nat) : Int) hrl.symm
                have hstep := revAt_step sw m n (by have := HSL.out; omega)
                rw [HTS.out] at hstep
                rw [iz_set, hstep] at s1
                have HS1 : Hid (Own (wr.setCell ⟨gn, m + 1 + n, none⟩ (.int .i64 ((nx (sw.drop (m + 1)) (T - 1 - n) : Nat) : Int))) w.heap.size w3.heap.size (.slice (some ⟨gn, 0, none⟩) (N + 1) c) (iz (revAt sw m (n + 1))) ∧ Own (wr.setCell ⟨gn, m + 1 + n, none⟩ (.int .i64 ((nx (sw.drop (m + 1)) (T - 1 - n) : Nat) : Int))) w4.heap.size w6.heap.size (.slice (some ⟨g8, 0, none⟩) T c8) (iz (sw.drop (m + 1))) ∧ Below w.heap.size w (wr.setCell ⟨gn, m + 1 + n, none⟩ (.int .i64 ((nx (sw.drop (m + 1)) (T - 1 - n) : Nat) : Int)))) :=
                  ⟨s1.1, ho8.turned s1.2 hs (.inr hs4), below_turned hb s1.2 (Nat.le_refl _) hb.size⟩
                generalize nx (sw.drop (m + 1)) (T - 1 - n) = tv at *
                generalize (iz (revAt sw m n)).getD (m + 1 + n) 0 = rv at r0
                clear s1 ho ho8 hb hstep htl hrl
                go_wp2
                go_roundg (T - (n + 1))
                case measure => omega
                case rel => exact ⟨n + 1, by omega, rfl, by go_num, HS1.out.1, HS1.out.2.1, HS1.out.2.2, by simpa using hs⟩
              · have hn' : n = T := by omega
                subst hn'
                have HFIN : Hid (Own wr w.heap.size wr.heap.size (.slice (some ⟨gn, 0, none⟩) (N + 1) c) (iz (revB sw m))) := by
                  unfold Hid
                  rw [← revAt_all sw m (by have := HSL.out; omega), HTS.out]
                  exact ho.wide (Nat.le_refl _) (Nat.le_trans hs36 hs)
                have HB7 := Lib.hid hb
                clear ho ho8 hb
                go_wp2
                go_ret2
                exact ⟨⟨_, _, rfl, (fun h => by rw [HNX2.out] at h; cases h), (fun p hp => ⟨rfl, by rw [HNX2.out] at hp; injection hp with hp; subst hp; exact HFIN.out⟩)⟩, HB7.out⟩
end Go.Proofs.Ytdpijiccolbljaa

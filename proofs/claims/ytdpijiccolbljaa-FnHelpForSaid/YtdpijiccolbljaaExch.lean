/- Exchanged, of the program and of the reference: the walks. -/
import Derived.Test.YtdpijiccolbljaaOpenBy
import Derived.Test.YtdpijiccolbljaaClone
namespace Go.Proofs.Ytdpijiccolbljaa
open Go.RowKit

/-- What Exchanged returns. -/
def exchB (zs : List Int) (a b : Int) : Bool := boxB zs && (inB 0 ((zs.length : Int) - 1) a && inB 0 ((zs.length : Int) - 1) b)
def exchI (zs : List Int) (a b : Int) : List Int := bif exchB zs a b then iz (exch (nz zs) a.toNat b.toNat) else []
theorem exchB_out {zs : List Int} {a b : Int} (h : exchB zs a b = true) : ∃ (ns : List Nat) (i j : Nat), zs = iz ns ∧ a = i ∧ b = j ∧ Perm7 ns ∧ i < ns.length ∧ j < ns.length ∧ exchI zs a b = iz (exch ns i j) := by
  have h0 := h
  unfold exchB at h
  rw [Bool.and_eq_true, Bool.and_eq_true] at h
  obtain ⟨ns, rfl, hP⟩ := boxB_perm h.1
  have h2 := inB_in h.2.1
  have h3 := inB_in h.2.2
  rw [length_iz] at h2 h3
  obtain ⟨i, rfl⟩ := Int.eq_ofNat_of_zero_le h2.1
  obtain ⟨j, rfl⟩ := Int.eq_ofNat_of_zero_le h3.1
  refine ⟨ns, i, j, rfl, rfl, rfl, hP, by omega, by omega, ?_⟩
  unfold exchI
  rw [h0, cond_true, nz_iz, Int.toNat_natCast, Int.toNat_natCast]
theorem exchI_no {zs : List Int} {a b : Int} (h : exchB zs a b = false) : exchI zs a b = [] := by unfold exchI; rw [h]; rfl
theorem exchI_len (zs : List Int) (a b : Int) : (exchI zs a b).length ≤ 7 := by
  rcases Bool.eq_false_or_eq_true (exchB zs a b) with h | h
  · obtain ⟨ns, i, j, -, -, -, hP, -, -, e⟩ := exchB_out h
    rw [e, length_iz, length_exch]; exact hP.hi
  · rw [exchI_no h]; simp

set_option maxHeartbeats 800000 in
set_option maxRecDepth 100000 in
theorem implExchanged_any (v : Value) (zs : List Int) (a b : Int) (w : World) (h : Rd w v zs) :
    Calls Try.prog 26 #[v, .int .i64 a, .int .i64 b] w fun e w' => ∃ v', e = .returned v' ∧ Own w' w.heap.size w'.heap.size v' (exchI zs a b) ∧ Below w.heap.size w w' := by
  have hR := h
  obtain ⟨a1, c1, rfl, l1, m1, -⟩ := h
  go_enter Try.func26, Try.ntmps26
  go_wp2_with fail
  refine (implBoxesOk_any _ zs _ hR).mono ?_
  rintro e w' ⟨rfl, rfl⟩
  rcases Bool.eq_false_or_eq_true (boxB zs) with hb | hb
  rotate_left
  · rw [hb]
    have HF : Hid (exchI zs a b = []) := exchI_no (by unfold exchB; rw [hb]; rfl)
    clear hb
    go_wp2
    go_ret
    exact ⟨_, rfl, by rw [HF.out]; exact own_nil _ _ _, Below.refl _ _⟩
  rw [hb]
  have hb7 := (boxB_out hb).2.1
  have hb1 := (boxB_out hb).1
  go_wp2_with fail
  refine (in_any _ _ _ _).mono ?_
  rintro e w' ⟨rfl, rfl⟩
  rcases Bool.eq_false_or_eq_true (inB 0 ((zs.length : Int) - 1) a) with hp | hp
  rotate_left
  · rw [hp]
    have HF : Hid (exchI zs a b = []) := exchI_no (by unfold exchB; rw [hp]; simp)
    clear hb hp
    go_wp2
    go_ret
    exact ⟨_, rfl, by rw [HF.out]; exact own_nil _ _ _, Below.refl _ _⟩
  rw [hp]
  go_wp2_with fail
  refine (in_any _ _ _ _).mono ?_
  rintro e w' ⟨rfl, rfl⟩
  rcases Bool.eq_false_or_eq_true (inB 0 ((zs.length : Int) - 1) b) with hq | hq
  rotate_left
  · rw [hq]
    have HF : Hid (exchI zs a b = []) := exchI_no (by unfold exchB; rw [hq]; simp)
    clear hb hp hq
    go_wp2
    go_ret
    exact ⟨_, rfl, by rw [HF.out]; exact own_nil _ _ _, Below.refl _ _⟩
  rw [hq]
  obtain ⟨ns, i, j, rfl, rfl, rfl, hP, hi, hj, he⟩ := exchB_out (zs := zs) (a := a) (b := b) (by unfold exchB; rw [hb, hp, hq]; rfl)
  have HE := Lib.hid he
  clear hb hp hq he
  go_wp2_with fail
  refine (clone_any _ _ _ hR hb1 (by omega)).mono ?_
  rintro e w1 ⟨v1, rfl, o1, b1⟩
  obtain ⟨A, c, rfl⟩ := own_form o1
  obtain ⟨g, rfl⟩ := own_block o1 (by omega)
  rw [length_iz] at o1 hb1 hb7 ⊢
  have x1 := o1.cellAt i (by rw [length_iz]; exact hi)
  have x2 := o1.cellAt j (by rw [length_iz]; exact hj)
  rw [getD_iz] at x1 x2
  have f1 := o1.frozenAt i (length_iz ns).symm
  have f2 := o1.frozenAt j (length_iz ns).symm
  have s1 := o1.set i ((nx ns j : Nat) : Int) (length_iz ns).symm
  have s2 := s1.1.set j ((nx ns i : Nat) : Int) (by simp [length_iz])
  have y2 := s1.1.cellAt j (by simp [length_iz, hj])
  rw [iz_set, iz_set] at s2
  have HS : Hid (Own (((w1.setCell ⟨g, i, none⟩ (.int .i64 ((nx ns j : Nat) : Int))).setCell ⟨g, j, none⟩ (.int .i64 ((nx ns i : Nat) : Int)))) w'.heap.size w1.heap.size (.slice (some ⟨g, 0, none⟩) ns.length c) (iz (exch ns i j)) ∧ Below w'.heap.size w' ((w1.setCell ⟨g, i, none⟩ (.int .i64 ((nx ns j : Nat) : Int))).setCell ⟨g, j, none⟩ (.int .i64 ((nx ns i : Nat) : Int)))) :=
    ⟨s2.1, below_turned (below_turned b1 s1.2 (Nat.le_refl _) b1.size) s2.2 (Nat.le_refl _) (by simpa using b1.size)⟩
  generalize ((iz ns).set i ((nx ns j : Nat) : Int)).getD j 0 = q at y2
  generalize nx ns i = vi at *
  generalize nx ns j = vj at *
  clear s1 s2 o1 b1
  go_wp2
  go_region
  all_goals go_wp2
  all_goals go_ret
  all_goals exact ⟨_, rfl, by rw [HE.out]; exact (HS.out.1.wide (Nat.le_refl _) (by simp)).drewN 1, HS.out.2.drew⟩
set_option maxHeartbeats 1600000 in
set_option maxRecDepth 100000 in
theorem specExchanged_any (v : Value) (zs : List Int) (a b : Int) (w : World) (h : Rd w v zs) :
    Calls Try.prog 25 #[v, .int .i64 a, .int .i64 b] w fun e w' => ∃ v', e = .returned v' ∧ Own w' w.heap.size w'.heap.size v' (exchI zs a b) ∧ Below w.heap.size w w' := by
  obtain ⟨i0, hi0, hz0, hz1, hz2⟩ := info_parts infoInt
  have hR := h
  have HH := Lib.hid h
  obtain ⟨a1, c1, rfl, l1, m1, -⟩ := h
  go_enter Try.func25, Try.ntmps25
  go_wp2_with fail
  refine (specBoxesOk_any _ zs _ hR).mono ?_
  rintro e w1 ⟨rfl, b1⟩
  have hR1 := hR.below b1
  have HB1 := Lib.hid b1
  have hs1 : w.heap.size ≤ w1.heap.size := b1.size
  have HE0 : Hid (Own (w1.alloc (.cells #[] 3)) w.heap.size (w1.alloc (.cells #[] 3)).heap.size (.slice (some ⟨w1.heap.size, 0, none⟩) 0 0) [] ∧ Below w.heap.size w (w1.alloc (.cells #[] 3))) :=
    ⟨(Own.new (own_none w1) (Nat.le_refl _)).wide hs1 (Nat.le_refl _), b1.alloc hs1 _⟩
  clear b1 hR
  rcases Bool.eq_false_or_eq_true (boxB zs) with hb | hb
  rotate_left
  · rw [hb]
    have HF : Hid (exchI zs a b = []) := exchI_no (by unfold exchB; rw [hb]; rfl)
    clear hb
    go_wp2
    go_ret
    exact ⟨_, rfl, by rw [HF.out]; exact HE0.out.1, HE0.out.2⟩
  rw [hb]
  have hb7 := (boxB_out hb).2.1
  have hb1 := (boxB_out hb).1
  go_wp2_with fail
  refine (l1In_any _ _ _ _).mono ?_
  rintro e w' ⟨rfl, rfl⟩
  rcases Bool.eq_false_or_eq_true (inB 0 ((zs.length : Int) - 1) a) with hp | hp
  rotate_left
  · rw [hp]
    have HF : Hid (exchI zs a b = []) := exchI_no (by unfold exchB; rw [hp]; simp)
    clear hb hp
    go_wp2
    go_ret
    exact ⟨_, rfl, by rw [HF.out]; exact HE0.out.1, HE0.out.2⟩
  rw [hp]
  go_wp2_with fail
  refine (l1In_any _ _ _ _).mono ?_
  rintro e w' ⟨rfl, rfl⟩
  rcases Bool.eq_false_or_eq_true (inB 0 ((zs.length : Int) - 1) b) with hq | hq
  rotate_left
  · rw [hq]
    have HF : Hid (exchI zs a b = []) := exchI_no (by unfold exchB; rw [hq]; simp)
    clear hb hp hq
    go_wp2
    go_ret
    exact ⟨_, rfl, by rw [HF.out]; exact HE0.out.1, HE0.out.2⟩
  rw [hq]
  obtain ⟨ns, i, j, rfl, rfl, rfl, hP, hi, hj, he⟩ := exchB_out (zs := zs) (a := a) (b := b) (by unfold exchB; rw [hb, hp, hq]; rfl)
  have HE := Lib.hid he
  have ho0 := HE0.out.1.1
  obtain ⟨g, off, rfl, hg0, x1⟩ := rdN_at HH.out i hi
  obtain ⟨g9, off9, e8, -, x2⟩ := rdN_at HH.out j hj
  injection e8 with e8
  injection e8 with e8 e9
  subst e8 e9
  obtain ⟨_, _, e9, hg, hc⟩ : ∃ a cap, Value.slice (some ⟨g, off, none⟩) (iz ns).length c1 = .slice a (iz ns).length cap ∧ g < w'.heap.size ∧ ∀ k, k < (iz ns).length → w'.cell? ⟨g, off + k, none⟩ = some (.int .i64 ((iz ns).getD k 0)) := by
    obtain ⟨a, cap, e, -, -, h3⟩ := hR1
    injection e with e1 e2 e3
    obtain ⟨g', off', e4, hg, hc⟩ := h3 (by omega)
    rw [← e1] at e4
    injection e4 with e4
    injection e4 with e4 e5
    subst e4 e5
    exact ⟨_, _, rfl, hg, hc⟩
  have hb0 : ∀ o, Below w'.heap.size w' (w'.alloc o) := fun o => (Below.refl _ _).alloc (Nat.le_refl _) o
  have HB0 := Lib.hid hb0
  have HC := Lib.hid hc
  clear hb hp hq he e9 hR1 hb0 hc
  go_wp2_with (at_builtin; go_loud (refine wpList_append_own _ rfl _ _ 22 rfl w.heap.size 3 i0 (.int .i64 0) 1 8 Try.underlying22 hi0 hz0 hz1 hz2 rfl (by decide) _ 0 [] rfl ho0 ⟨g, off, none⟩ (iz ns).length c1 ((iz ns).map (Value.int .i64)) rfl (by simp) ?n1 ?n2 ?c1 ?c2 ?c3 ?_))
  case n1 =>
    intro j u hu
    have e : (⟨g, off, none⟩ : Addr).add j = ⟨g, off + j, none⟩ := by unfold Addr.add; split <;> simp_all
    rw [List.getElem?_map] at hu
    by_cases hj : j < (iz ns).length
    · rw [List.getElem?_eq_getElem hj] at hu
      injection hu with hu
      rw [e, (HB0.out _).cell (p := ⟨g, off + j, none⟩) hg, HC.out j hj, ← hu]
      simp [List.getD, List.getElem?_eq_getElem hj]
    · rw [List.getElem?_eq_none (by omega)] at hu; cases hu
  case n2 => intro u hu; obtain ⟨_, _, rfl⟩ := List.mem_map.1 hu; rfl
  case c1 => unfold maxLen; omega
  case c2 => omega
  case c3 => first | omega | (simp; omega)
  intro v' w3 hown hgr _
  have hB : Below w.heap.size w w3 := HE0.out.2.grown hgr (by simp; omega) (fun k hk => by have := (ho0.lt k hk).1; omega)
  have o3 : Own w3 w.heap.size w3.heap.size v' (iz ns) := Own.new (by simpa using hown) (Nat.le_refl _)
  obtain ⟨A, c, rfl⟩ := own_form o3
  obtain ⟨gn, rfl⟩ := own_block o3 (by omega)
  have hgn := (o3.1.lt gn rfl).1
  have y1 := (hB.cell (p := ⟨g, off + i, none⟩) hg0).trans x1
  have y2 := (hB.cell (p := ⟨g, off + j, none⟩) hg0).trans x2
  rw [length_iz] at o3 hb1 hb7 ⊢
  have x3 := o3.cellAt i (by rw [length_iz]; exact hi)
  have f1 := o3.frozenAt i (length_iz ns).symm
  have f2 := o3.frozenAt j (length_iz ns).symm
  have s1 := o3.set i ((nx ns j : Nat) : Int) (length_iz ns).symm
  have s2 := s1.1.set j ((nx ns i : Nat) : Int) (by simp [length_iz])
  have z2 := s1.1.cellAt j (by simp [length_iz, hj])
  have z1 : (w3.setCell ⟨gn, i, none⟩ (.int .i64 ((nx ns j : Nat) : Int))).cell? ⟨g, off + i, none⟩ = some (.int .i64 ((nx ns i : Nat) : Int)) := (World.cell?_setCell_other w3 ⟨gn, i, none⟩ _ _ (by intro e; injection e; omega)).trans y1
  rw [iz_set, iz_set] at s2
  have HS : Hid (Own (((w3.setCell ⟨gn, i, none⟩ (.int .i64 ((nx ns j : Nat) : Int))).setCell ⟨gn, j, none⟩ (.int .i64 ((nx ns i : Nat) : Int)))) w.heap.size w3.heap.size (.slice (some ⟨gn, 0, none⟩) ns.length c) (iz (exch ns i j)) ∧ Below w.heap.size w ((w3.setCell ⟨gn, i, none⟩ (.int .i64 ((nx ns j : Nat) : Int))).setCell ⟨gn, j, none⟩ (.int .i64 ((nx ns i : Nat) : Int)))) :=
    ⟨s2.1, below_turned (below_turned hB s1.2 (Nat.le_refl _) hB.size) s2.2 (Nat.le_refl _) (by simpa using hB.size)⟩
  generalize ((iz ns).set i ((nx ns j : Nat) : Int)).getD j 0 = q at z2
  generalize (iz ns).getD i 0 = q2 at x3
  generalize nx ns i = vi at *
  generalize nx ns j = vj at *
  clear s1 s2 o3 hB hown hgr HE0 ho0 hz0 hz1 hz2 hi0 x1 x2
  go_wp2
  go_ret
  exact ⟨_, rfl, by rw [HE.out]; exact HS.out.1.wide (Nat.le_refl _) (by simp), HS.out.2⟩
end Go.Proofs.Ytdpijiccolbljaa

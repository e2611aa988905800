/- AfterVisits of the program. -/
import Derived.Test.YtnpfjpihcdlmhaaTold
namespace Go.Proofs.Ytnpfjpihcdlmhaa
open Go.RowKit

def roomI (p : Int) (zs : List Int) : Int × Int × List Int := if visB p zs then stV p zs zs.length else (0, 0, [])

theorem set3 {w : World} {g : Nat} {x y z : Value} {t : TypeId} (h : w.heap[g]? = some (.cells #[x, y, z] t (0, 0))) (x' y' z' : Value) :
    (((w.setCell ⟨g, 0, none⟩ x').setCell ⟨g, 1, none⟩ y').setCell ⟨g, 2, none⟩ z').heap[g]? = some (.cells #[x', y', z'] t (0, 0)) ∧
    Turned g (g + 1) w (((w.setCell ⟨g, 0, none⟩ x').setCell ⟨g, 1, none⟩ y').setCell ⟨g, 2, none⟩ z') ∧ (((w.setCell ⟨g, 0, none⟩ x').setCell ⟨g, 1, none⟩ y').setCell ⟨g, 2, none⟩ z').heap.size = w.heap.size := by
  have q1 := heap_setCell_same w g 0 _ _ x' h
  have q2 := heap_setCell_same _ g 1 _ _ y' q1
  have q3 := heap_setCell_same _ g 2 _ _ z' q2
  refine ⟨by simpa using q3, ⟨rfl, rfl, rfl, by simp, fun k hk hne => ?_⟩, by simp⟩
  rw [heap_setCell_other _ ⟨g, 2, none⟩ k _ (by show k ≠ g; omega), heap_setCell_other _ ⟨g, 1, none⟩ k _ (by show k ≠ g; omega), heap_setCell_other _ ⟨g, 0, none⟩ k _ (by show k ≠ g; omega)]

set_option maxRecDepth 100000 in
theorem implAfterVisits_any (v : Value) (zs : List Int) (p : Int) (w : World) (h : Rd w v zs) (hp : -9223372036854775808 ≤ p ∧ p ≤ 9223372036854775807) :
    Calls Try.prog 41 #[.int .i64 p, v] w fun e w' => ∃ v', e = .returned (.agg #[.int .i64 (roomI p zs).1, .int .i64 (roomI p zs).2.1, v']) ∧ Own w' w.heap.size w'.heap.size v' (roomI p zs).2.2 ∧ Below w.heap.size w w' := by
  obtain ⟨E0, hE0⟩ : ∃ o, o = Obj.cells #[.int .i64 0, .int .i64 0, .slice none 0 0] 30 (0, 0) := ⟨_, rfl⟩
  have hb0 : Below w.heap.size w (w.alloc E0) := (Below.refl _ _).alloc (Nat.le_refl _) E0
  have hR : Rd (w.alloc E0) v zs := h.below hb0
  obtain ⟨a1, c1, rfl, l1, m1, r1⟩ := h
  subst hE0
  go_enter Try.func41, Try.ntmps41
  go_wp2_with fail
  refine (implVisitsOk_any _ zs _ _ hR).mono ?_
  rintro e w1 ⟨rfl, b1⟩
  have g0 : w1.heap[w.heap.size]? = _ := (b1.block _ (by simp)).trans (heap_alloc_new w _)
  obtain ⟨⟨k0, k1, k2⟩, f0, f1, f2, kz⟩ := blk3 g0
  rcases Bool.eq_false_or_eq_true (visB p zs) with hb | hb
  · obtain ⟨h1, h2, h3, h4⟩ := visB_yes hb
    have hst := Lib.hid (stV_len hb)
    rw [hb]
    go_wp2_with fail
    refine (implRoomNew_any _ _).mono ?_
    rintro e w2 ⟨v2, rfl, o2, b2⟩
    obtain ⟨A, c, rfl⟩ := own_slice o2
    have HR := Lib.hid hR
    have s1 := b1.size
    have s2 := b2.size
    rw [World.size_alloc] at s1 b1
    have S12 := Lib.hid (And.intro s1 s2)
    have B2 : Hid (∀ o, Below (w.heap.size + 1) (w.alloc (.cells #[.int .i64 0, .int .i64 0, .slice none 0 0] 30 (0, 0))) (w2.alloc o)) := fun o => (b1.trans (b2.mono s1)).alloc (by omega) o
    have O2 : Hid (∀ o, Own (w2.alloc o) w1.heap.size w2.heap.size (.slice A (newDone p).length c) (newDone p)) := fun o => o2.keep fun g _ hg => Below.heap_alloc _ _ _ hg
    clear r1 hR o2 b1 b2 s1 s2 l1 m1 g0 k0 k1 k2 f0 f1 f2 kz
    go_wp2
    go_loopw [17] (fun i wr => ∃ k : Nat, k ≤ zs.length ∧ i = .int .i64 k ∧ RoomAt w1.heap.size w2.heap.size (stV p zs k) wr ∧ Below (w.heap.size + 1) (w.alloc (.cells #[.int .i64 0, .int .i64 0, .slice none 0 0] 30 (0, 0))) wr) (fun i _ => zs.length - (intOf i).toNat)
    case atStart => exact ⟨0, Nat.zero_le _, rfl, ⟨A, c, heap_alloc_new _ _, O2.out _⟩, B2.out _⟩
    case round =>
      clear B2 O2
      obtain ⟨k, hk, rfl, ⟨A, c, hblk, hown⟩, hbel⟩ := hrel
      by_cases hlt : k < zs.length
      · obtain ⟨a2, c2, hq, l2, m2, r2⟩ := HR.out.below (w' := wr) (by simpa using hbel)
        injection hq with e1 e2 e3
        subst e1 e3
        obtain ⟨g1, o1, z, rfl, hg1, x1, HZ⟩ := rd_at r2 k hlt
        have hz := h4 z (by rw [HZ.out]; simp [List.getD, List.getElem?_eq_getElem hlt])
        obtain ⟨P, rfl⟩ := Int.eq_ofNat_of_zero_le hz.1
        obtain ⟨hrb, hrl⟩ := hst.out k hk
        obtain ⟨hsw, hcn⟩ := roomB_cnt hrb
        clear r2
        go_wp2_with fail
        refine (visit_any _ _ _ _ _ _ _ _ P wr hblk hown (.inr (Nat.le_refl _)) (by omega) hsw hcn).mono ?_
        rintro e w3 ⟨rfl, hblk3, hown3, hv3⟩
        have hr3 : RoomAt w1.heap.size w2.heap.size (stV p zs (k + 1)) w3 := by
          rw [stV_succ p zs k hlt, ← HZ.out]
          refine ⟨A, c, ?_, ?_⟩
          · show w3.heap[w2.heap.size]? = some (.cells #[.int .i64 (vSw (stV p zs k).1 (stV p zs k).2.2 P), .int .i64 (vCnt (stV p zs k).1 (stV p zs k).2.1 P), .slice A (vDone (stV p zs k).1 (stV p zs k).2.2 P).length c] 30 (0, 0))
            rw [length_vDone]; exact hblk3
          · show Own w3 w1.heap.size w2.heap.size (.slice A (vDone (stV p zs k).1 (stV p zs k).2.2 P).length c) (vDone (stV p zs k).1 (stV p zs k).2.2 P)
            rw [length_vDone]; exact hown3
        have H3 := Lib.hid hr3
        have B3 := Lib.hid (visited_below hbel hv3 (Nat.le_trans S12.out.1 S12.out.2) S12.out.1)
        clear hblk hown hbel hblk3 hown3 hv3 x1 hr3 hrb hrl hsw hcn
        go_wp2
        go_round
        case rel => exact ⟨k + 1, by omega, by go_num, H3.out, B3.out⟩
        case measure => simp [intOf]; omega
      · have hk' : k = zs.length := by omega
        subst hk'
        have hr : roomI p zs = stV p zs zs.length := by unfold roomI; rw [if_pos hb]
        have HE := Lib.hid hr
        have g0 : wr.heap[w.heap.size]? = _ := (hbel.block _ (by simp)).trans (heap_alloc_new w _)
        obtain ⟨⟨k0, k1, k2⟩, f0, f1, f2, kz⟩ := blk3 g0
        obtain ⟨⟨k3, k4, k5⟩, -, -, -, kz2⟩ := blk3 hblk
        have t0 := set3 g0 (.int .i64 (stV p zs zs.length).1) (.int .i64 (stV p zs zs.length).2.1) (.slice A (stV p zs zs.length).2.2.length c)
        have hbe : Below w.heap.size w wr := ((Below.refl w.heap.size w).alloc (Nat.le_refl _) _).trans (hbel.mono (by omega))
        have HB := Lib.hid (below_turned hbe t0.2.1 (Nat.le_refl _) hbe.size)
        have HO : Hid (∀ W, Turned w.heap.size (w.heap.size + 1) wr W → W.heap.size = wr.heap.size → Own W w.heap.size W.heap.size (.slice A (stV p zs zs.length).2.2.length c) (stV p zs zs.length).2.2) := fun W hT hS => by
          have := S12.out.1
          exact (hown.turned hT (by omega) (.inr (by omega))).wide (by omega) (by omega)
        have HT := Lib.hid t0
        clear hblk hown hbel hbe t0 g0
        go_wp2
        obtain ⟨⟨j0, j1, j2⟩, -, -, -, -⟩ := blk3 HT.out.1
        refine bodyPost_ret (v := .agg #[.int .i64 (stV p zs zs.length).1, .int .i64 (stV p zs zs.length).2.1, .slice A (stV p zs zs.length).2.2.length c]) (by simp [results, Try.results41, go_sem, j0, j1, j2]) rfl ?_
        rw [HE.out]
        exact ⟨_, rfl, HO.out _ HT.out.2.1 HT.out.2.2, HB.out⟩
  · have e1 : roomI p zs = (0, 0, []) := by unfold roomI; rw [hb]; rfl
    rw [hb]
    have E1 := Lib.hid e1
    have HT := Lib.hid (set3 g0 (.int .i64 0) (.int .i64 0) (.slice none 0 0))
    have hbe : Below w.heap.size w w1 := hb0.trans (b1.mono (by simp))
    have HB := Lib.hid (below_turned hbe HT.out.2.1 (Nat.le_refl _) hbe.size)
    clear e1 hb g0 hbe b1 hb0
    go_wp2
    obtain ⟨⟨j0, j1, j2⟩, -, -, -, -⟩ := blk3 HT.out.1
    refine bodyPost_ret (v := .agg #[.int .i64 0, .int .i64 0, .slice none 0 0]) (by simp [results, Try.results41, go_sem, j0, j1, j2]) rfl ?_
    rw [E1.out]
    exact ⟨_, rfl, ⟨⟨rfl, .inl ⟨rfl, rfl⟩⟩, fun k hk => by cases hk⟩, HB.out⟩
end Go.Proofs.Ytnpfjpihcdlmhaa

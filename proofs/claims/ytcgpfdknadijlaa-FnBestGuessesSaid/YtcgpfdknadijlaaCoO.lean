/- All runs are settled. -/
import Derived.Test.YtcgpfdknadijlaaCoN
namespace Go.Proofs.Ytcgpfdknadijlaa
open Go.RowKit

/-- The run from x up to y has been settled. -/
def DoneR (L j x y : Nat) : Prop := y - x < L ∨ (y - x = L ∧ x < j)
def NInv (zs : List Int) (N : Int → Int → Int) (L j : Nat) : Prop := ∀ x y : Nat, x ≤ y → y ≤ zs.length → (DoneR L j x y → N x y = opt zs x y) ∧ (¬ DoneR L j x y → N x y = 0)
def FInv (zs : List Int) (F : Int → Int → Int) (L j : Nat) : Prop := ∀ x y : Nat, x < y → y ≤ zs.length → DoneR L j x y → F x y = fstB zs x y
theorem NInv.start (zs : List Int) : NInv zs (fun _ _ => 0) 1 0 := fun x y h1 h2 => ⟨fun h => by unfold DoneR at h; rw [opt_small (by omega)], fun _ => rfl⟩
theorem FInv.start (zs : List Int) : FInv zs (fun _ _ => 0) 1 0 := fun x y h1 h2 h => by unfold DoneR at h; omega
theorem NInv.step {zs : List Int} {N N' : Int → Int → Int} {L j : Nat} (h : NInv zs N L j) (h1 : N' j ((j + L : Nat) : Int) = opt zs j (j + L)) (h2 : ∀ x y, ¬(x = (j : Int) ∧ y = ((j + L : Nat) : Int)) → N' x y = N x y) : NInv zs N' L (j + 1) := fun x y hx hy => by
  by_cases he : x = j ∧ y = j + L
  · obtain ⟨rfl, rfl⟩ := he
    exact ⟨fun _ => h1, fun hd => absurd (.inr ⟨by omega, by omega⟩) hd⟩
  · rw [h2 x y (by omega)]
    refine ⟨fun hd => (h x y hx hy).1 ?_, fun hd => (h x y hx hy).2 fun hd' => hd ?_⟩
    · unfold DoneR at *; omega
    · unfold DoneR at *; omega
theorem FInv.step {zs : List Int} {F F' : Int → Int → Int} {L j : Nat} (h : FInv zs F L j) (h1 : F' j ((j + L : Nat) : Int) = fstB zs j (j + L)) (h2 : ∀ x y, ¬(x = (j : Int) ∧ y = ((j + L : Nat) : Int)) → F' x y = F x y) : FInv zs F' L (j + 1) := fun x y hx hy hd => by
  by_cases he : x = j ∧ y = j + L
  · obtain ⟨rfl, rfl⟩ := he
    exact h1
  · rw [h2 x y (by omega)]
    refine h x y hx hy ?_
    unfold DoneR at *; omega
theorem NInv.up {zs : List Int} {N : Int → Int → Int} {L j : Nat} (h : NInv zs N L j) (hj : zs.length < j + L) : NInv zs N (L + 1) 0 := fun x y hx hy =>
  ⟨fun hd => (h x y hx hy).1 (by unfold DoneR at *; omega), fun hd => (h x y hx hy).2 fun hd' => hd (by unfold DoneR at *; omega)⟩
theorem FInv.up {zs : List Int} {F : Int → Int → Int} {L j : Nat} (h : FInv zs F L j) (hj : zs.length < j + L) : FInv zs F (L + 1) 0 := fun x y hx hy hd =>
  h x y hx hy (by unfold DoneR at *; omega)

theorem alive_alloc {w : World} {b n : Nat} {f : Int → Int → Int} (h : MapF w b n f) (o : Obj) : MapF (w.alloc o) b n f := h.keep (Below.heap_alloc w o b h.lt)

set_option maxHeartbeats 6400000 in
set_option maxRecDepth 100000 in
theorem plansFor_any (w : World) (v : Value) (zs : List Int) (h : Rd w v zs) (hp : priceB zs = true) :
    Calls Try.prog 20 #[v] w fun e w' => ∃ q b1 b2 nn mm N F a c, v = .slice a zs.length c ∧ e = .returned (.pointer (some ⟨q, 0, none⟩)) ∧ PlansAt w w' q b1 b2 a zs c ∧ MapF w' b1 nn N ∧ MapF w' b2 mm F ∧ NInv zs N (zs.length + 1) 0 ∧ FInv zs F (zs.length + 1) 0 := by
  have hbk := h
  obtain ⟨a, c, rfl, l1, m1, -⟩ := hbk
  obtain ⟨hl9, hz⟩ := priceB_yes hp
  have HR := Lib.hid h
  have HZ := Lib.hid hz
  clear h hz hp
  obtain ⟨W3, hW3⟩ : ∃ W3, W3 = ((w.alloc (.map #[] 0)).alloc (.map #[] 0)).alloc (.cells #[.slice a zs.length c, .map (some w.heap.size), .map (some (w.heap.size + 1))] 55) := ⟨_, rfl⟩
  have HM1 : Hid (MapF W3 w.heap.size 0 (fun _ _ => 0)) := by
    rw [hW3]; exact alive_alloc (alive_alloc (MapF.made w) _) _
  have HM2 : Hid (MapF W3 (w.heap.size + 1) 0 (fun _ _ => 0)) := by
    rw [hW3]
    have := MapF.made (w.alloc (.map #[] 0))
    rw [World.size_alloc] at this
    exact alive_alloc this _
  have HP : Hid (PlansAt w W3 (w.heap.size + 1 + 1) w.heap.size (w.heap.size + 1) a zs c) := by
    rw [hW3]
    refine ⟨?_, by omega, by omega, by omega, by omega, by omega, by omega, ?_⟩
    · have := (MapKept.heap_alloc ((w.alloc (.map #[] 0)).alloc (.map #[] 0)) (.cells #[.slice a zs.length c, .map (some w.heap.size), .map (some (w.heap.size + 1))] 55)).1
      rw [World.size_alloc, World.size_alloc] at this
      exact this
    · exact (((Below.refl _ w).alloc (Nat.le_refl _) _).alloc (by simp) _).alloc (by simp; omega) _
  have HW := Lib.hid hW3
  clear hW3
  have hmm := @run_makeMap Try.prog
  go_enter Try.func20, Try.ntmps20
  go_wp2_with fail
  rw [← HW.out]
  clear hmm
  obtain ⟨Q, hQ⟩ : ∃ Q, w.heap.size + 1 + 1 = Q := ⟨_, rfl⟩
  obtain ⟨B2, hB2⟩ : ∃ B2, w.heap.size + 1 = B2 := ⟨_, rfl⟩
  obtain ⟨B1, hB1⟩ : ∃ B1, w.heap.size = B1 := ⟨_, rfl⟩
  rw [hQ, hB2, hB1] at HP
  rw [hB2] at HM2
  rw [hB1] at HM1
  rw [hQ]
  clear hQ hB2 hB1 HW
  go_loopw [4, 5] (fun s4 s5 wr => ∃ (L nn mm : Nat) (N F : Int → Int → Int), 1 ≤ L ∧ L ≤ zs.length + 1 ∧ nn + 100 ≤ 100 * L ∧ mm + 100 ≤ 100 * L ∧ s4 = .int .i64 L ∧ Hid (PlansAt w wr Q B1 B2 a zs c) ∧ Hid (MapF wr B1 nn N) ∧ Hid (MapF wr B2 mm F) ∧ Hid (NInv zs N L 0) ∧ Hid (FInv zs F L 0))
    (fun s4 _ _ => zs.length + 1 - (intOf s4).toNat)
  case atStart => exact ⟨1, 0, 0, _, _, by omega, by omega, by omega, by omega, rfl, HP, HM1, HM2, NInv.start zs, FInv.start zs⟩
  case round =>
    clear HP HM1 HM2
    obtain ⟨L, nn, mm, N, F, hL1, hL2, hnn, hmm, rfl, HP, HM1, HM2, HN, HF⟩ := hrel
    obtain ⟨wk, hwk⟩ : ∃ wk, wk = wr := ⟨_, rfl⟩
    subst hwk
    by_cases hL : L ≤ zs.length
    · go_wp2_with fail
      go_loopw [5] (fun s5 wr => ∃ (j n2 m2 : Nat) (N F : Int → Int → Int), j + L ≤ zs.length + 1 ∧ n2 + 100 ≤ 100 * L + 10 * j ∧ m2 + 100 ≤ 100 * L + 10 * j ∧ s5 = .int .i64 j ∧ Hid (PlansAt w wr Q B1 B2 a zs c) ∧ Hid (MapF wr B1 n2 N) ∧ Hid (MapF wr B2 m2 F) ∧ Hid (NInv zs N L j) ∧ Hid (FInv zs F L j))
        (fun s5 _ => zs.length + 1 - (intOf s5).toNat)
      case atStart => exact ⟨0, nn, mm, N, F, by omega, by omega, by omega, rfl, HP, HM1, HM2, HN, HF⟩
      case round =>
        clear HP HM1 HM2 HN HF hnn hmm
        obtain ⟨j, n2, m2, N, F, hj, hn2, hm2, rfl, HP, HM1, HM2, HN, HF⟩ := hrel
        obtain ⟨wk, hwk⟩ : ∃ wk, wk = wr := ⟨_, rfl⟩
        subst hwk
        by_cases hjl : j + L ≤ zs.length
        · have T := Lib.hid (settle_any w wk Q B1 B2 n2 m2 a zs c N F j (j + L) HR.out HZ.out hl9 HP.out HM1.out HM2.out (by omega) hjl (by omega) (by omega)
            (fun x y h1 h2 h3 h4 => (HN.out x y h2 (by omega)).1 (.inl (by omega))) ((HN.out j (j + L) (by omega) hjl).2 (by unfold DoneR; omega)))
          rw [show ((j + L : Nat) : Int) = (j : Int) + (L : Int) by omega] at T
          go_wp2_with fail
          with_reducible refine T.out.mono ?_
          rintro e w5 ⟨rfl, hp5, ⟨N', hm5, hn5, hn5'⟩, ⟨F', hf5, hg5, hg5'⟩⟩
          have HN5 := Lib.hid (HN.out.step (N' := N') (by rw [show ((j + L : Nat) : Int) = (j : Int) + (L : Int) by omega]; exact hn5) (by rw [show ((j + L : Nat) : Int) = (j : Int) + (L : Int) by omega]; exact hn5'))
          have HF5 := Lib.hid (HF.out.step (F' := F') (by rw [show ((j + L : Nat) : Int) = (j : Int) + (L : Int) by omega]; exact hg5) (by rw [show ((j + L : Nat) : Int) = (j : Int) + (L : Int) by omega]; exact hg5'))
          have HP5 := Lib.hid hp5
          have HM5 := Lib.hid hm5
          have HG5 := Lib.hid hf5
          clear hn5 hn5' hg5 hg5' hp5 hm5 hf5 HP HM1 HM2 HN HF T
          go_wp2_with fail
          go_roundw
          case rel => exact ⟨j + 1, n2 + 1, m2 + 10, N', F', by omega, by omega, by omega, by go_num, HP5, HM5, HG5, HN5, HF5⟩
          case measure => simp [intOf]; omega
        · go_wp2_with fail
          go_roundw
          case rel => exact ⟨L + 1, n2, m2, N, F, by omega, by omega, by omega, by omega, by go_num, HP, HM1, HM2, HN.out.up (by omega), HF.out.up (by omega)⟩
          case measure => simp [intOf]; omega
    · have hLe : L = zs.length + 1 := by omega
      subst hLe
      go_wp2
      go_ret
      exact ⟨Q, B1, B2, nn, mm, N, F, a, c, rfl, rfl, HP.out, HM1.out, HM2.out, HN.out, HF.out⟩

set_option maxHeartbeats 6400000 in
set_option maxRecDepth 100000 in
theorem implSureWith_any (w : World) (v : Value) (zs : List Int) (h : Rd w v zs) :
    Calls Try.prog 12 #[v] w fun e w' => e = .returned (.int .i64 (sureI zs)) ∧ Below w.heap.size w w' := by
  obtain ⟨S, hS⟩ : ∃ S, sureI zs = S := ⟨_, rfl⟩
  rw [hS]
  have HO : Hid (S = if priceB zs then opt zs 0 zs.length else -1) := hS.symm
  clear hS
  have T := Lib.hid (implPricesOk_any v zs w h)
  have hbk := h
  obtain ⟨a, c, rfl, l1, m1, -⟩ := hbk
  have HR := Lib.hid h
  clear h
  go_enter Try.func12, Try.ntmps12
  go_wp2_with fail
  with_reducible refine T.out.mono ?_
  rintro e w1 ⟨rfl, b1⟩
  have HB1 := Lib.hid b1
  clear b1 T
  by_cases hp : priceB zs = true
  · have hS := HO.out
    rw [if_pos hp] at hS
    rw [hp]
    have hl9 := (priceB_yes hp).1
    have hbd := opt_bd (priceB_yes hp).2 _ 0 zs.length (Nat.le_refl _)
    go_wp2_with fail
    with_reducible refine (plansFor_any w1 _ zs (HR.out.below HB1.out) hp).mono ?_
    rintro e w2 ⟨q, p1, p2, nn, mm, N, F, a9, c9, hv, rfl, hP, hM, -, hN, -⟩
    have hlk := hM.look (x := 0) (y := (zs.length : Int)) (by omega) (by omega)
    have hN0 := (hN 0 zs.length (Nat.zero_le _) (Nat.le_refl _)).1 (.inl (by omega))
    rw [show ((0 : Nat) : Int) = 0 from rfl] at hN0
    rw [hN0, ← hS] at hlk
    obtain ⟨-, e1, -⟩ := hP.cells
    have HB2 := Lib.hid (HB1.out.trans (hP.2.2.2.2.2.2.2.mono HB1.out.size))
    clear hP hM hN hN0 hv HB1 HR hS HO hbd
    go_wp2
    go_ret
    exact ⟨rfl, HB2.out⟩
  · rw [Bool.not_eq_true] at hp
    have hS := HO.out
    rw [hp] at hS
    simp only [Bool.false_eq_true, if_false] at hS
    subst hS
    rw [hp]
    clear HO
    go_wp2
    go_ret
    exact ⟨rfl, HB1.out⟩
end Go.Proofs.Ytcgpfdknadijlaa

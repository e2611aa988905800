/- The walk of the law on HitsOf. -/
import Derived.Test.YtahamfgkcnepgaaDrawHi
import Derived.Test.YtahamfgkcnepgaaHitsSp
import Derived.Test.YtahamfgkcnepgaaDiagP
import Derived.Test.YtahamfgkcnepgaaAlive
import Derived.Deep.RegionHeld3
namespace Go.Proofs.Ytahamfgkcnepgaa
open Go.RowKit

theorem hitsI_neg {rows cols long : Int} {zss : List (List Int)} {p : Pl} (h : hitsI rows cols zss p long < 0) : hitsI rows cols zss p long = -1 := by
  unfold hitsI at h ⊢
  split at h
  · rename_i h1
    rw [Bool.and_eq_true] at h1
    rw [if_pos (by rw [h1.1, h1.2]; rfl)]
    have hm : p ∈ placesI rows cols long := by have := h1.2; rw [List.contains_eq_mem, decide_eq_true_iff] at this; exact this
    have := (hitP_bd h1.1 hm).1
    unfold hitP at this
    omega
  · rename_i h1
    rw [if_neg h1]
theorem hitsI_pos {rows cols long : Int} {zss : List (List Int)} {p : Pl} (h : ¬ hitsI rows cols zss p long < 0) : p ∈ placesI rows cols long ∧ 0 ≤ hitsI rows cols zss p long ∧ hitsI rows cols zss p long ≤ long := by
  have h' := h
  unfold hitsI at h
  split at h
  · rename_i h1
    rw [Bool.and_eq_true] at h1
    have hm : p ∈ placesI rows cols long := by have := h1.2; rw [List.contains_eq_mem, decide_eq_true_iff] at this; exact this
    have := hitP_bd h1.1 hm
    rw [hitsI_in h1.1 hm]
    exact ⟨hm, this⟩
  · exact absurd (by decide) h

theorem diag_ok {rows cols long : Int} {p : Pl} (h : p ∈ placesI rows cols long) (k : Int) (h0 : 0 ≤ k) (h1 : k < long) : hitsI rows cols (diagI rows cols long k) p long = 1 := by
  have hb : diagB rows cols long k = true := by
    obtain ⟨R, C, L, r, c, d, rfl, rfl, rfl, hb, -, -, -⟩ := mem_placesI h
    obtain ⟨a1, a2, a3⟩ := placesB_yes hb
    simp only [diagB, inB, Bool.and_eq_true, decide_eq_true_eq]
    exact ⟨a1, a2, a3, by omega⟩
  rw [hitsI_in (shotsB_diag hb) h]
  exact diag_hit hb h

set_option maxHeartbeats 3200000 in
set_option maxRecDepth 100000 in
theorem walk_FnHitsOf (a0 : Option Addr) (len0 cap0 : Nat) (z0 : List Int) (w : World) (w0 : IsRowB .u8 w a0 len0 cap0 z0) :
    Calls Try.prog 15 #[.slice a0 len0 cap0] w fun e w' => e = .returned (.bool true) ∧ Below w.heap.size w w' := by
  by_cases hlen : 1048576 < len0
  · go_enter Try.func15, Try.ntmps15
    go_wp2
    go_ret
    exact ⟨rfl, Below.refl _ _⟩
  · go_enter Try.func15, Try.ntmps15
    go_wp2_with fail
    refine (DrawHitsOf_any _ _ _ _ _ w0).mono ?_
    rintro e w1 ⟨⟨r, c, v, zss, x, y, z, l, rfl, hR, hx, hy⟩, b1⟩
    have s1 := b1.size
    obtain ⟨W, hW⟩ : ∃ W : World, W = w1.alloc (.cells #[.int .i64 x, .int .i64 y, .int .i64 z] 26) := ⟨_, rfl⟩
    have ba : Below w1.heap.size w1 W := by rw [hW]; exact (Below.refl _ _).alloc (Nat.le_refl _) _
    have g1 : W.heap[w1.heap.size]? = some (.cells #[.int .i64 x, .int .i64 y, .int .i64 z] 26 (0, 0)) := by rw [hW]; exact heap_alloc_new _ _
    have hRW := hR.below ba
    have hbW := b1.trans (ba.mono s1)
    obtain ⟨⟨x0, x1, x2⟩, -, -, -, xz⟩ := blk3 g1
    have HW := Lib.hid hW; have HG := Lib.hid g1; have HB := Lib.hid hbW
    clear w0 b1 ba g1 hbW hR hW
    go_wp2_with fail
    rw [← HW.out]
    refine (implHitsOf_any r c l v zss x y z W hRW).mono ?_
    rintro e w2 ⟨rfl, b2⟩
    have g2 := (b2.block _ xz).trans HG.out
    have hR2 := hRW.below b2
    have hb2 := HB.out.trans (b2.mono HB.out.size)
    obtain ⟨⟨m0, m1, m2⟩, -, -, -, mz⟩ := blk3 g2
    have HG2 := Lib.hid g2; have HB2 := Lib.hid hb2
    obtain ⟨n, hn⟩ : ∃ n, n = hitsI r c zss (x, y, z) l := ⟨_, rfl⟩
    rw [← hn]
    have HN := Lib.hid hn
    clear b2 g2 hb2 hRW hn x0 x1 x2 xz
    go_wp2_with fail
    refine (specHitsOf_any r c l v zss x y z w2 hR2 (by omega) (by omega)).mono ?_
    rintro e w3 ⟨rfl, b3⟩
    rw [← HN.out]
    have g3 := (b3.block _ mz).trans HG2.out
    have hb3 := HB2.out.trans (b3.mono HB2.out.size)
    obtain ⟨⟨k0, k1, k2⟩, -, -, -, kz⟩ := blk3 g3
    have HG3 := Lib.hid g3; have HB3 := Lib.hid hb3
    clear b3 g3 hb3 hR2 m0 m1 m2 mz
    by_cases h0 : n < 0
    · have hm1 : n = -1 := by rw [HN.out]; exact hitsI_neg (by rw [← HN.out]; exact h0)
      subst hm1
      go_wp2_with fail
      refine (alive_true _).mono ?_
      rintro e w5 ⟨rfl, rfl⟩
      go_wp2
      go_ret
      exact ⟨rfl, HB3.out⟩
    · obtain ⟨hp, hn0, hnl⟩ := hitsI_pos (show ¬ hitsI r c zss (x, y, z) l < 0 by rw [← HN.out]; exact h0)
      rw [← HN.out] at hn0 hnl
      have HD : Hid (∀ k : Nat, (k : Int) < l → hitsI r c (diagI r c l k) (x, y, z) l = 1) := fun k hk => diag_ok hp k (by omega) hk
      have hl6 : 1 ≤ l ∧ l ≤ 6 := by
        obtain ⟨R, C, L, r, c, d, rfl, rfl, rfl, hb, -, -, -⟩ := mem_placesI hp
        exact (placesB_yes hb).2.2
      obtain ⟨L, rfl⟩ := Int.eq_ofNat_of_zero_le (a := l) (by omega)
      have s3 := HB3.out.size
      clear hp k0 k1 k2
      go_wp2_with fail
      go_loopw [9] (fun i wr => ∃ k : Nat, k ≤ L ∧ i = .int .i64 k ∧ Below w3.heap.size w3 wr) (fun i _ => L - (intOf i).toNat)
      case atStart => exact ⟨0, Nat.zero_le _, rfl, Below.refl _ _⟩
      case round =>
        obtain ⟨k, hk, rfl, hbr⟩ := hrel
        by_cases hlt : k < L
        · have g4 := (hbr.block _ kz).trans HG3.out
          obtain ⟨⟨k0, k1, k2⟩, -, -, -, rz⟩ := blk3 g4
          have hd1 := HD.out k (by omega)
          have HD1 := Lib.hid hd1
          have HG4 := Lib.hid g4; have HBR := Lib.hid hbr
          have hsr := hbr.size
          clear hd1 g4 hbr
          go_wp2
          go_region_held3 (fun wx => wx.cell? ⟨w1.heap.size, 0, none⟩ = some (.int .i64 x) ∧ wx.cell? ⟨w1.heap.size, 1, none⟩ = some (.int .i64 y) ∧ wx.cell? ⟨w1.heap.size, 2, none⟩ = some (.int .i64 z)) (first | exact ⟨n0, n1, n2⟩ | exact ⟨l0, l1, l2⟩ | exact ⟨k0, k1, k2⟩ | go_keep)
            (first | (go_at_call 35; refine (implDiagonalShots_any r c L k _).mono ?_; rintro e w7 ⟨v7, us7, rfl, o7, b7⟩; obtain ⟨⟨l0, l1, l2⟩, -, -, -, lz⟩ := blk3 ((b7.block _ (by exact rz)).trans (by exact HG4.out))) | (go_at_call 41; refine (implHitsOf_any r c L _ (diagI r c L k) x y z _ (by exact o7.rd)).mono ?_; rintro e w8 ⟨rfl, b8⟩; rw [HD1.out]; obtain ⟨⟨n0, n1, n2⟩, -, -, -, nz⟩ := blk3 ((b8.block _ lz).trans ((b7.block _ (by exact rz)).trans (by exact HG4.out)))))
          have hb7 := (HBR.out.drew).trans (b7.mono (by rw [World.size_drew]; exact hsr))
          have HB8 := Lib.hid (hb7.trans (b8.mono hb7.size))
          clear b7 b8 hb7 o7 l0 l1 l2 n0 n1 n2 k0 k1 k2 lz nz rz
          go_wp2
          go_roundw
          case rel => exact ⟨k + 1, by omega, by go_num, HB8.out⟩
          case measure => simp [intOf]; omega
        · have hk' : k = L := by omega
          subst hk'
          have HE := Lib.hid (HB3.out.trans (hbr.mono s3))
          clear hbr
          go_wp2
          go_ret
          exact ⟨rfl, HE.out⟩
end Go.Proofs.Ytahamfgkcnepgaa

/- HitsOf, of the program and of the reference. -/
import Derived.Test.YtahamfgkcnepgaaHits
import Derived.Deep.RegionWith
namespace Go.Proofs.Ytahamfgkcnepgaa
open Go.RowKit

theorem contains_snoc {ps : List Pl} {p q : Pl} {k : Nat} (hk : k < ps.length) (hq : q = ps.getD k (0, 0, 0)) (h : (ps.take k).contains p = false) (hne : ¬ q = p) : (ps.take (k + 1)).contains p = false := by
  rw [takeP_snoc ps k hk, ← hq]
  simp only [List.contains_eq_mem, List.mem_append, List.mem_singleton, decide_eq_false_iff_not, not_or] at h ⊢
  exact ⟨h, fun e => hne e.symm⟩
theorem contains_hit {ps : List Pl} {q : Pl} {k : Nat} (hk : k < ps.length) (hq : q = ps.getD k (0, 0, 0)) : ps.contains q = true := by
  rw [hq]; simp [List.getD, List.getElem?_eq_getElem hk]

set_option maxRecDepth 100000 in
theorem Index_any (v : Value) (ps : List Pl) (x y z : Int) (w : World) (h : RdP w v ps) :
    Calls Try.prog 87 #[v, .agg #[.int .i64 x, .int .i64 y, .int .i64 z]] w fun e w' => (∃ k : Int, e = .returned (.int .i64 k) ∧ (0 ≤ k ↔ ps.contains (x, y, z) = true)) ∧ Below w.heap.size w w' := by
  obtain ⟨W, hW⟩ : ∃ W : World, W = w.alloc (.cells #[.int .i64 x, .int .i64 y, .int .i64 z] 26) := ⟨_, rfl⟩
  have hbW : Below w.heap.size w W := by rw [hW]; exact (Below.refl _ _).alloc (Nat.le_refl _) _
  have g1 : W.heap[w.heap.size]? = some (.cells #[.int .i64 x, .int .i64 y, .int .i64 z] 26 (0, 0)) := by rw [hW]; exact heap_alloc_new _ _
  obtain ⟨⟨x0, x1, x2⟩, -, -, -, -⟩ := blk3 g1
  have hR := h.below hbW
  have HW := Lib.hid hW; have HB := Lib.hid hbW
  obtain ⟨a, cp, rfl, l1, m1, r1⟩ := hR
  clear hW g1 hbW h
  go_enter Try.func87, Try.ntmps87
  go_wp2_with fail
  rw [← HW.out]
  go_loopw [8] (fun i wr => ∃ k : Nat, k ≤ ps.length ∧ i = .int .i64 k ∧ Hid ((ps.take k).contains (x, y, z) = false) ∧ ∃ n, wr = W.drewN n) (fun i _ => ps.length - (intOf i).toNat)
  case atStart => exact ⟨0, Nat.zero_le _, rfl, rfl, 0, rfl⟩
  case round =>
    obtain ⟨k, hk, rfl, hno, n, rfl⟩ := hrel
    by_cases hlt : k < ps.length
    · obtain ⟨g, off, x', y', z', rfl, hg, ⟨q0, q1, q2⟩, Z1⟩ := rdP_at r1 k hlt
      clear r1
      by_cases e1 : x' = x
      · by_cases e2 : y' = y
        · by_cases e3 : z' = z
          · subst e1 e2 e3
            have HC := Lib.hid (contains_hit hlt Z1.out)
            go_wp2
            go_quiet (fail)
            go_wp2
            go_ret
            exact ⟨⟨k, rfl, fun _ => HC.out, fun _ => by omega⟩, below_drewN (below_drewN HB.out n) _⟩
          · have HN := Lib.hid (contains_snoc hlt Z1.out hno.out (fun e => e3 (by injection e with _ e; injection e)))
            have f3 : (z == z') = false := by simp; exact fun e => e3 e.symm
            have f3' : (z' == z) = false := by simpa using e3
            subst e1 e2
            clear e3
            go_wp2
            go_quiet (fail)
            go_wp2
            go_roundw
            case rel => exact ⟨k + 1, by omega, by go_num, HN, _, rfl⟩
            case measure => simp [intOf]; omega
        · have HN := Lib.hid (contains_snoc hlt Z1.out hno.out (fun e => e2 (by injection e with _ e; injection e)))
          have f2 : (y == y') = false := by simp; exact fun e => e2 e.symm
          have f2' : (y' == y) = false := by simpa using e2
          subst e1
          clear e2
          go_wp2
          go_quiet (fail)
          go_wp2
          go_roundw
          case rel => exact ⟨k + 1, by omega, by go_num, HN, _, rfl⟩
          case measure => simp [intOf]; omega
      · have HN := Lib.hid (contains_snoc hlt Z1.out hno.out (fun e => e1 (by injection e)))
        have f1 : (x == x') = false := by simp; exact fun e => e1 e.symm
        have f1' : (x' == x) = false := by simpa using e1
        clear e1
        go_wp2
        go_quiet (fail)
        go_wp2
        go_roundw
        case rel => exact ⟨k + 1, by omega, by go_num, HN, _, rfl⟩
        case measure => simp [intOf]; omega
    · have hk' : k = ps.length := by omega
      subst hk'
      go_wp2
      go_ret
      refine ⟨⟨-1, rfl, fun h => by omega, fun h => ?_⟩, below_drewN HB.out _⟩
      have := hno.out
      rw [List.take_length, h] at this
      cases this

set_option maxRecDepth 100000 in
theorem Contains_any (v : Value) (ps : List Pl) (x y z : Int) (w : World) (h : RdP w v ps) :
    Calls Try.prog 74 #[v, .agg #[.int .i64 x, .int .i64 y, .int .i64 z]] w fun e w' => e = .returned (.bool (ps.contains (x, y, z))) ∧ Below w.heap.size w w' := by
  have hb1 : Below w.heap.size w (w.alloc (.cells #[.int .i64 x, .int .i64 y, .int .i64 z] 26)) := (Below.refl _ _).alloc (Nat.le_refl _) _
  have hR := h.below hb1
  have HB := Lib.hid hb1
  clear hb1 h
  go_enter Try.func74, Try.ntmps74
  go_wp2_with fail
  refine (Index_any _ ps _ _ _ _ hR).mono ?_
  rintro e w2 ⟨⟨k, rfl, hk⟩, b2⟩
  have HK := Lib.hid hk
  have HB2 := Lib.hid (HB.out.trans (b2.mono (by simp)))
  clear hk b2
  by_cases h0 : 0 ≤ k
  · go_wp2
    go_ret
    exact ⟨ret_bool (by rw [HK.out.1 h0]), HB2.out⟩
  · go_wp2
    go_ret
    have h1 : ps.contains (x, y, z) = false := by
      cases hb : ps.contains (x, y, z)
      · rfl
      · exact absurd (HK.out.2 hb) (by omega)
    exact ⟨ret_bool (by rw [h1]; simp; omega), HB2.out⟩

set_option maxHeartbeats 1600000 in
set_option maxRecDepth 100000 in
theorem implHitsOf_any (rows cols long : Int) (v : Value) (zss : List (List Int)) (x y z : Int) (w : World) (h : RdR w v zss) :
    Calls Try.prog 41 #[.int .i64 rows, .int .i64 cols, v, .agg #[.int .i64 x, .int .i64 y, .int .i64 z], .int .i64 long] w fun e w' => e = .returned (.int .i64 (hitsI rows cols zss (x, y, z) long)) ∧ Below w.heap.size w w' := by
  obtain ⟨W, hW⟩ : ∃ W : World, W = w.alloc (.cells #[.int .i64 x, .int .i64 y, .int .i64 z] 26) := ⟨_, rfl⟩
  have hbW : Below w.heap.size w W := by rw [hW]; exact (Below.refl _ _).alloc (Nat.le_refl _) _
  have g1 : W.heap[w.heap.size]? = some (.cells #[.int .i64 x, .int .i64 y, .int .i64 z] 26 (0, 0)) := by rw [hW]; exact heap_alloc_new _ _
  obtain ⟨⟨x0, x1, x2⟩, -, -, -, xz⟩ := blk3 g1
  have hR := h.below hbW
  have HW := Lib.hid hW; have HB := Lib.hid hbW; have HG := Lib.hid g1
  have hsz : w.heap.size ≤ W.heap.size := hbW.size
  clear hW g1 hbW h
  go_enter Try.func41, Try.ntmps41
  go_wp2_with fail
  rw [← HW.out]
  rcases Bool.eq_false_or_eq_true (shotsB rows cols zss) with hs | hs
  · have HS := Lib.hid hs
    obtain ⟨bb, hbb⟩ : ∃ b, b = (placesI rows cols long).contains (x, y, z) := ⟨_, rfl⟩
    have HC := Lib.hid hbb
    clear hs hbb
    go_region_held3 (fun wx => wx.cell? ⟨w.heap.size, 0, none⟩ = some (.int .i64 x) ∧ wx.cell? ⟨w.heap.size, 1, none⟩ = some (.int .i64 y) ∧ wx.cell? ⟨w.heap.size, 2, none⟩ = some (.int .i64 z)) (first | exact ⟨n0, n1, n2⟩ | exact ⟨m0, m1, m2⟩ | exact ⟨l0, l1, l2⟩ | go_keep)
      (first | (go_at_call 28; refine (implShotsOk_any rows cols _ zss _ (by exact hR)).mono ?_; rintro e w7 ⟨rfl, b7⟩; rw [HS.out]; obtain ⟨⟨l0, l1, l2⟩, -, -, -, lz⟩ := blk3 ((b7.block _ (by exact xz)).trans (by exact HG.out))) | (go_at_call 30; refine (implPlacesOf_any rows cols long _).mono ?_; rintro e w8 ⟨v8, rfl, o8, b8⟩; obtain ⟨⟨m0, m1, m2⟩, -, -, -, mz⟩ := blk3 ((b8.block _ lz).trans ((b7.block _ (by exact xz)).trans (by exact HG.out)))) | (go_at_call 74; refine (Contains_any _ (placesI rows cols long) _ _ _ _ o8.rd).mono ?_; rintro e w9 ⟨rfl, b9⟩; rw [← HC.out]; obtain ⟨⟨n0, n1, n2⟩, -, -, -, nz⟩ := blk3 ((b9.block _ mz).trans ((b8.block _ lz).trans ((b7.block _ (by exact xz)).trans (by exact HG.out))))))
    have hb7 := (HB.out.drew).trans (b7.mono (by rw [World.size_drew]; exact hsz))
    have hb8 := hb7.trans (b8.mono hb7.size)
    have hb9 := hb8.trans (b9.mono hb8.size)
    have HB9 := Lib.hid hb9
    have hR9 : RdR w9 v zss := RdR.below (RdR.below (RdR.below (by exact hR) b7) b8) b9
    have hs9 := hb9.size
    clear b7 b8 b9 hb7 hb8 hb9 o8 l0 l1 l2 m0 m1 m2 x0 x1 x2 lz mz nz
    rcases bb with _ | _
    · have HF : Hid (hitsI rows cols zss (x, y, z) long = -1) := by unfold Hid hitsI; rw [← HC.out]; simp
      go_wp2
      go_ret
      exact ⟨ret_int HF.out.symm, HB9.out⟩
    · have hmem : (x, y, z) ∈ placesI rows cols long := by
        have := HC.out
        rw [eq_comm, List.contains_eq_mem, decide_eq_true_iff] at this; exact this
      obtain ⟨R, C, L, r, c, d, rfl, rfl, rfl, hpb, hp, hlies, hL1⟩ := mem_placesI hmem
      injection hp with e1 e2
      injection e2 with e2 e3
      subst e1 e2 e3
      have hL6 : L ≤ 6 := by have := (placesB_yes hpb).2.2; omega
      have HF : Hid (hitsI R C zss ((r : Int), (c : Int), (d : Int)) L = hN zss r c d L) := by
        unfold Hid hitsI; rw [← HC.out, HS.out]; simp
      clear hmem hpb
      go_wp2_with fail
      refine (hits_any v zss R C L r c d _ hR9 HS.out hlies hL6 hL1).mono ?_
      rintro e w10 ⟨rfl, b10⟩
      have HB10 := Lib.hid (HB9.out.trans (b10.mono hs9))
      clear b10
      go_wp2
      go_ret
      exact ⟨ret_int HF.out.symm, HB10.out⟩
  · have HS := Lib.hid hs
    clear hs
    have HF : Hid (hitsI rows cols zss (x, y, z) long = -1) := by unfold Hid hitsI; rw [HS.out]; simp
    first | go_region_with (first | (go_at_call 28; refine (implShotsOk_any rows cols _ zss _ (by exact hR)).mono ?_; rintro e w7 ⟨rfl, b7⟩; rw [HS.out])) | fail
    all_goals have HB7 := Lib.hid ((HB.out.drew).trans (b7.mono (by rw [World.size_drew]; exact hsz)))
    all_goals clear b7
    all_goals go_wp2
    all_goals go_ret
    all_goals exact ⟨ret_int HF.out.symm, HB7.out⟩
end Go.Proofs.Ytahamfgkcnepgaa

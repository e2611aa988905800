/- HitsOf of the reference. -/
import Derived.Test.YtahamfgkcnepgaaHitsOf
namespace Go.Proofs.Ytahamfgkcnepgaa
open Go.RowKit

theorem contains_keep {ps : List Pl} {p : Pl} {k : Nat} (hk : k < ps.length) (h : (ps.take k).contains p = true) : (ps.take (k + 1)).contains p = true := by
  rw [takeP_snoc ps k hk]
  simp only [List.contains_eq_mem, List.mem_append, decide_eq_true_eq] at h ⊢
  exact .inl h
theorem contains_now {ps : List Pl} {q : Pl} {k : Nat} (hk : k < ps.length) (hq : q = ps.getD k (0, 0, 0)) : (ps.take (k + 1)).contains q = true := by
  rw [takeP_snoc ps k hk, ← hq]
  simp

theorem fields_lies {R C L r c d : Nat} (h : Lies R C L r c d) (hR : R ≤ 6) (hC : C ≤ 6) (hL : 1 ≤ L ∧ L ≤ 6) : fieldsI r c d L = fieldsL r c d L := by
  have hb : fieldsB r c d L = true := by
    unfold fieldsB
    rcases h with ⟨rfl, h1, h2⟩ | ⟨rfl, h1, h2⟩
    · rw [inB_true (by omega) (by omega), inB_true (by omega) (by omega), inB_true (by omega) (by omega), inB_true (by omega) (by omega), inB_true (by omega) (by omega), inB_true (by omega) (by omega)]; rfl
    · rw [inB_true (by omega) (by omega), inB_true (by omega) (by omega), inB_true (by omega) (by omega), inB_true (by omega) (by omega), inB_true (by omega) (by omega), inB_true (by omega) (by omega)]; rfl
  unfold fieldsI; rw [if_pos hb]; rfl

set_option maxHeartbeats 1600000 in
set_option maxRecDepth 100000 in
theorem specHitsOf_any (rows cols long : Int) (v : Value) (zss : List (List Int)) (x y z : Int) (w : World) (h : RdR w v zss) (hx : -9223372036854775808 ≤ x ∧ x ≤ 9223372036854775807) (hy : -9223372036854775808 ≤ y ∧ y ≤ 9223372036854775807) :
    Calls Try.prog 40 #[.int .i64 rows, .int .i64 cols, v, .agg #[.int .i64 x, .int .i64 y, .int .i64 z], .int .i64 long] w fun e w' => e = .returned (.int .i64 (hitsI rows cols zss (x, y, z) long)) ∧ Below w.heap.size w w' := by
  obtain ⟨W, hW⟩ : ∃ W : World, W = w.alloc (.cells #[.int .i64 x, .int .i64 y, .int .i64 z] 26) := ⟨_, rfl⟩
  have hbW : Below w.heap.size w W := by rw [hW]; exact (Below.refl _ _).alloc (Nat.le_refl _) _
  have g1 : W.heap[w.heap.size]? = some (.cells #[.int .i64 x, .int .i64 y, .int .i64 z] 26 (0, 0)) := by rw [hW]; exact heap_alloc_new _ _
  have xz : w.heap.size < W.heap.size := (Array.getElem?_eq_some_iff.1 g1).1
  have hR := h.below hbW
  have HW := Lib.hid hW; have HB := Lib.hid hbW; have HG := Lib.hid g1
  clear hW g1 hbW h
  go_enter Try.func40, Try.ntmps40
  go_wp2_with fail
  rw [← HW.out]
  refine (specPlacesOf_any rows cols long W).mono ?_
  rintro e w1 ⟨v1, rfl, o1, b1⟩
  have hR1 := hR.below b1
  obtain ⟨⟨x0, x1, x2⟩, -, -, -, -⟩ := blk3 ((b1.block _ xz).trans HG.out)
  have HB1 := Lib.hid (HB.out.trans (b1.mono (Nat.le_of_lt xz)))
  have hrd := o1.rd
  obtain ⟨ps, hps⟩ : ∃ ps, ps = placesI rows cols long := ⟨_, rfl⟩
  rw [← hps] at hrd
  have HPS := Lib.hid hps
  clear o1 b1 hR hps
  obtain ⟨a, cp, rfl, l1, m1, r1⟩ := hrd
  go_wp2_with fail
  go_loopw [12, 13] (fun f i wr => ∃ k : Nat, k ≤ ps.length ∧ i = .int .i64 k ∧ f = .bool ((ps.take k).contains (x, y, z)) ∧ ∃ n, wr = w1.drewN n) (fun _ i _ => ps.length - (intOf i).toNat)
  case atStart => exact ⟨0, Nat.zero_le _, rfl, rfl, 0, rfl⟩
  case round =>
    obtain ⟨k, hk, rfl, rfl, n, rfl⟩ := hrel
    by_cases hlt : k < ps.length
    · obtain ⟨g, off, x', y', z', rfl, hg, ⟨q0, q1, q2⟩, Z1⟩ := rdP_at r1 k hlt
      clear r1
      obtain ⟨b, hb⟩ : ∃ b, b = (ps.take k).contains (x, y, z) := ⟨_, rfl⟩
      rw [← hb]
      have HBB := Lib.hid hb
      clear hb
      rcases b with _ | _
      · by_cases e1 : x' = x
        · by_cases e2 : y' = y
          · by_cases e3 : z' = z
            · subst e1 e2 e3
              have HC := Lib.hid (contains_now hlt Z1.out)
              go_wp2
              go_quiet (fail)
              go_wp2
              go_roundw
              case rel => exact ⟨k + 1, by omega, by go_num, by rw [HC.out], _, rfl⟩
              case measure => simp [intOf]; omega
            · have HN := Lib.hid (contains_snoc hlt Z1.out HBB.out.symm (fun e => e3 (by injection e with _ e; injection e)))
              have f3 : (z == z') = false := by simp; exact fun e => e3 e.symm
              have f3' : (z' == z) = false := by simpa using e3
              subst e1 e2
              clear e3
              go_wp2
              go_quiet (fail)
              go_wp2
              go_roundw
              case rel => exact ⟨k + 1, by omega, by go_num, by rw [HN.out], _, rfl⟩
              case measure => simp [intOf]; omega
          · have HN := Lib.hid (contains_snoc hlt Z1.out HBB.out.symm (fun e => e2 (by injection e with _ e; injection e)))
            have f2 : (y == y') = false := by simp; exact fun e => e2 e.symm
            have f2' : (y' == y) = false := by simpa using e2
            subst e1
            clear e2
            go_wp2
            go_quiet (fail)
            go_wp2
            go_roundw
            case rel => exact ⟨k + 1, by omega, by go_num, by rw [HN.out], _, rfl⟩
            case measure => simp [intOf]; omega
        · have HN := Lib.hid (contains_snoc hlt Z1.out HBB.out.symm (fun e => e1 (by injection e)))
          have f1 : (x == x') = false := by simp; exact fun e => e1 e.symm
          have f1' : (x' == x) = false := by simpa using e1
          clear e1
          go_wp2
          go_quiet (fail)
          go_wp2
          go_roundw
          case rel => exact ⟨k + 1, by omega, by go_num, by rw [HN.out], _, rfl⟩
          case measure => simp [intOf]; omega
      · have HC := Lib.hid (contains_keep hlt HBB.out.symm)
        go_wp2
        go_quiet (fail)
        go_wp2
        go_roundw
        case rel => exact ⟨k + 1, by omega, by go_num, by rw [HC.out], _, rfl⟩
        case measure => simp [intOf]; omega
    · have hk' : k = ps.length := by omega
      subst hk'
      rw [List.take_length]
      obtain ⟨bb, hbb⟩ : ∃ b, b = ps.contains (x, y, z) := ⟨_, rfl⟩
      rw [← hbb]
      have HC := Lib.hid hbb
      clear hbb r1
      go_wp2_with fail
      refine (specShotsOk_any rows cols v zss _ (hR1.drewN n)).mono ?_
      rintro e w2 ⟨rfl, rfl⟩
      rcases Bool.eq_false_or_eq_true (shotsB rows cols zss) with hs | hs
      · rw [hs]
        have HS := Lib.hid hs
        clear hs
        rcases bb with _ | _
        · have HF : Hid (hitsI rows cols zss (x, y, z) long = -1) := by unfold Hid hitsI; rw [← HPS.out, ← HC.out]; simp
          go_wp2
          go_ret
          exact ⟨ret_int HF.out.symm, below_drewN HB1.out n⟩
        · have hmem : (x, y, z) ∈ placesI rows cols long := by
            have := HC.out
            rw [HPS.out, eq_comm, List.contains_eq_mem, decide_eq_true_iff] at this; exact this
          obtain ⟨R, C, L, r, c, d, rfl, rfl, rfl, hpb, hp, hlies, hL1⟩ := mem_placesI hmem
          injection hp with e1 e2
          injection e2 with e2 e3
          subst e1 e2 e3
          obtain ⟨p1, p2, p3⟩ := placesB_yes hpb
          have hL6 : L ≤ 6 := by omega
          have HF : Hid (hitsI R C zss ((r : Int), (c : Int), (d : Int)) L = hN zss r c d L) := by
            unfold Hid hitsI; rw [← HPS.out, ← HC.out, HS.out]; simp
          have hfl := fields_lies hlies (by omega) (by omega) ⟨hL1, hL6⟩
          have HBD := Lib.hid (hN_bd HS.out hlies)
          have HLA := Lib.hid (fun k => lies_at (k := k) hlies)
          have HHB := Lib.hid (fun r c hr hc => hitAt_bd HS.out (r := r) (c := c) hr hc)
          have hd : d = 0 ∨ d = 1 := by rcases hlies with h | h <;> omega
          clear hmem hpb
          go_wp2_with fail
          refine (specFieldsOf_any (d := (d : Int)) r c L _ (by omega) (by omega)).mono ?_
          rintro e w3 ⟨v3, us3, rfl, o3, b3⟩
          rw [hfl] at o3
          have hR3 := (hR1.drewN n).below b3
          have HB3 := Lib.hid ((below_drewN HB1.out n).trans (b3.mono (below_drewN HB1.out n).size))
          have hR4 := o3.rd
          have hll := length_fieldsL r c d L
          have hrow : ∀ k, k < L → (fieldsL r c d L).getD k [] = [(r : Int) + k * d, (c : Int) + k * (1 - d)] := fun k hk => by simp [fieldsL, List.getD, hk]
          have HROW := Lib.hid hrow
          obtain ⟨a4, c4, rfl, l4, m4, r4⟩ := hR4
          rw [hll] at l4 r4 ⊢
          obtain ⟨q1, q2, hzl, hzrow⟩ := shotsB_yes HS.out
          have HZR := Lib.hid hzrow
          have HRR := Lib.hid hR3
          clear o3 b3 hfl hrow hll hR1 hzrow
          go_wp2_with fail
          go_loopw [14, 16] (fun s i wr => ∃ k : Nat, k ≤ L ∧ i = .int .i64 k ∧ s = .int .i64 (hN zss r c d k) ∧ ∃ m, wr = w3.drewN m) (fun _ i _ => L - (intOf i).toNat)
          case atStart => exact ⟨0, Nat.zero_le _, rfl, rfl, 0, rfl⟩
          case round =>
            obtain ⟨k, hk, rfl, rfl, m, rfl⟩ := hrel
            have hbd := HBD.out k hk
            by_cases hlt : k < L
            · obtain ⟨g4, off4, rfl, hg4, hcell4⟩ := r4 (by omega)
              obtain ⟨u, hu, A, cu, rfl, l2, m2, r2⟩ := hcell4 k hlt
              rw [HROW.out k hlt] at r2 hu l2
              obtain ⟨gu, ou, rfl, hgu, hcu⟩ := r2 (by simp)
              have c0 := hcu 0 (by simp)
              have c1 := hcu 1 (by simp)
              simp only [List.length_cons, List.length_nil, List.getD_cons_zero, List.getD_cons_succ, Nat.add_zero] at c0 c1 hu
              obtain ⟨hr1, hc1⟩ := HLA.out k hlt
              have hhb := HHB.out _ _ hr1 hc1
              have er : (r : Int) + (k : Int) * (d : Int) = ((r + k * d : Nat) : Int) := by rw [Int.natCast_add, Int.natCast_mul]
              have ec : (c : Int) + (k : Int) * (1 - (d : Int)) = ((c + k * (1 - d) : Nat) : Int) := by
                rcases hd with rfl | rfl <;> simp
              rw [er] at c0
              rw [ec] at c1
              have hsucc := hN_succ zss r c d k
              obtain ⟨S, hS⟩ : ∃ S, S = hN zss r c d k := ⟨_, rfl⟩
              rw [← hS] at hbd hsucc ⊢
              have HSU := Lib.hid hsucc
              clear hsucc hS
              generalize r + k * d = r' at *
              generalize c + k * (1 - d) = c' at *
              have hRX := HRR.out
              obtain ⟨a5, cp5, e5, -⟩ := HRR.out
              subst e5
              obtain ⟨g5, off5, b5, o5, m5, cb5, rfl, e2, l5, m6, y1, hm, l6, m7, y2⟩ := rdR_cell (r := r') (c := c') hRX (by omega) (by omega) HZR.out
              generalize hitAt zss r' c' = t at *
              have hr2 : (r' : Int) < zss.length := by omega
              have hc2 : (c' : Int) < m5 := by omega
              clear hcu hcell4 r2 r4 er ec hr1 hc1 e2 hRX
              go_wp2
              go_quiet (fail)
              go_wp2
              go_roundw
              case rel => exact ⟨k + 1, by omega, by go_num, by rw [HSU.out], _, rfl⟩
              case measure => simp [intOf]; omega
            · have hk' : k = L := by omega
              subst hk'
              clear r4
              go_wp2
              go_ret
              exact ⟨ret_int HF.out.symm, below_drewN HB3.out m⟩
      · rw [hs]
        have HF : Hid (hitsI rows cols zss (x, y, z) long = -1) := by unfold Hid hitsI; rw [hs]; simp
        clear hs
        go_wp2
        go_ret
        exact ⟨ret_int HF.out.symm, below_drewN HB1.out n⟩
end Go.Proofs.Ytahamfgkcnepgaa

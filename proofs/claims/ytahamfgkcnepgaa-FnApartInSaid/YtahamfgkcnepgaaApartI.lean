/- ApartIn: the walk of the program. -/
import Derived.Test.YtahamfgkcnepgaaApart
namespace Go.Proofs.Ytahamfgkcnepgaa
open Go.RowKit
theorem arr36 : boolArr T0 = #[Value.bool false, Value.bool false, Value.bool false, Value.bool false, Value.bool false, Value.bool false, Value.bool false, Value.bool false, Value.bool false, Value.bool false, Value.bool false, Value.bool false, Value.bool false, Value.bool false, Value.bool false, Value.bool false, Value.bool false, Value.bool false, Value.bool false, Value.bool false, Value.bool false, Value.bool false, Value.bool false, Value.bool false, Value.bool false, Value.bool false, Value.bool false, Value.bool false, Value.bool false, Value.bool false, Value.bool false, Value.bool false, Value.bool false, Value.bool false, Value.bool false, Value.bool false] := by kernel_rfl

set_option maxHeartbeats 3200000 in
set_option maxRecDepth 100000 in
theorem implApartIn_any (rows cols long : Int) (w : World) :
    Calls Try.prog 37 #[.int .i64 rows, .int .i64 cols, .int .i64 long] w fun e w' => e = .returned (.int .i64 (apartI rows cols long)) ∧ Below w.heap.size w w' := by
  go_enter Try.func37, Try.ntmps37
  go_wp2_with fail
  refine (isBoard_any _ _ _).mono ?_
  rintro e w' ⟨rfl, rfl⟩
  rcases Bool.eq_false_or_eq_true (inB 1 6 rows && inB 1 6 cols) with hb | hb
  rotate_left
  · rw [hb]
    have HF : Hid (apartI rows cols long = -1) := by unfold Hid apartI placesB; rw [← Bool.and_assoc, hb]; rfl
    clear hb
    go_wp2
    go_ret
    exact ⟨ret_int HF.out.symm, Below.refl _ _⟩
  rw [hb]
  go_wp2_with fail
  refine (in_any _ _ _ _).mono ?_
  rintro e w' ⟨rfl, rfl⟩
  rcases Bool.eq_false_or_eq_true (inB 1 6 long) with hlg | hlg
  rotate_left
  · rw [hlg]
    have HF : Hid (apartI rows cols long = -1) := by unfold Hid apartI placesB; rw [hlg]; simp
    clear hb hlg
    go_wp2
    go_ret
    exact ⟨ret_int HF.out.symm, Below.refl _ _⟩
  rw [hlg]
  have hpb : placesB rows cols long = true := by unfold placesB; rw [← Bool.and_assoc, hb, hlg]; rfl
  have HI : Hid (apartI rows cols long = ((apartL long.toNat (placesI rows cols long)).2 : Int)) := by unfold Hid apartI; rw [hpb]; rfl
  have hl6 := (placesB_yes hpb).2.2
  clear hb hlg hpb
  rename World => w
  obtain ⟨W, hW⟩ : ∃ W : World, W = w.alloc (.cells (boolArr T0) 75) := ⟨_, rfl⟩
  have hbW : Below w.heap.size w W := by rw [hW]; exact (Below.refl _ _).alloc (Nat.le_refl _) _
  have hsW : W.heap.size = w.heap.size + 1 := by rw [hW]; simp
  have hbl : BoolBlk W w.heap.size 75 T0 := by unfold BoolBlk; rw [hW]; exact heap_alloc_new _ _
  rw [arr36] at hW
  have HW := Lib.hid hW; have HB := Lib.hid hbW; have HBL := Lib.hid hbl
  clear hW hbW hbl
  go_wp2_with fail
  rw [← HW.out]
  refine (implPlacesOf_any rows cols long W).mono ?_
  rintro e w1 ⟨v1, rfl, o1, b1⟩
  have hlen := length_placesI rows cols long
  have HM : Hid (∀ x y z : Int, (x, y, z) ∈ placesI rows cols long → ∃ R C r c d : Nat, x = r ∧ y = c ∧ z = d ∧ Lies R C long.toNat r c d ∧ R ≤ 6 ∧ C ≤ 6) := fun x y z h => place_lies h
  generalize placesI rows cols long = ps at o1 HI hlen HM
  obtain ⟨L, rfl⟩ := Int.eq_ofNat_of_zero_le (a := long) (by omega)
  rw [Int.toNat_natCast] at HI HM
  have s1 := b1.size
  have HAP : Hid (∀ a cp, v1 = .slice a ps.length cp → ApI 75 w w1 w1.heap.size w.heap.size a cp ps (apartL L (ps.take 0)).1) := fun a cp e => by
    subst e
    exact ⟨HBL.out.below b1 (by omega), HB.out.trans (b1.mono (by omega)), o1.wide (by omega) (Nat.le_refl _), Nat.le_refl _, by omega⟩
  have HBD := Lib.hid (apartL_bd L ps)
  have HSN := Lib.hid (apartL_snoc L ps)
  obtain ⟨a, cp, rfl, l1, m1, -⟩ := o1.rd
  clear b1 o1
  go_wp2_with fail
  go_loopg [8, 32] ps.length (fun g q i wr => ∃ k : Nat, k ≤ ps.length ∧ g = ps.length - k ∧ i = .int .i64 k ∧ q = .int .i64 ((apartL L (ps.take k)).2 : Nat) ∧ ApI 75 w wr w1.heap.size w.heap.size a cp ps (apartL L (ps.take k)).1)
  case atStart => exact ⟨0, Nat.zero_le _, rfl, rfl, rfl, HAP.out a cp rfl⟩
  case round =>
    obtain ⟨wo, rfl⟩ : ∃ wo : World, wo = wr := ⟨_, rfl⟩
    obtain ⟨k, hk, rfl, rfl, rfl, hap⟩ := hrel
    by_cases hlt : k < ps.length
    · have hrd := hap.own.rd
      obtain ⟨a', cp', e1, -, -, hr0⟩ := hrd
      injection e1 with e1 e2 e3
      subst e1 e3
      obtain ⟨g0, off0, x, y, z, rfl, hg0, ⟨c0, c1, c2⟩, HZ⟩ := rdP_at hr0 k hlt
      have hmem : (x, y, z) ∈ ps := by rw [HZ.out]; simp [List.getD, List.getElem?_eq_getElem hlt]
      obtain ⟨R, C, r, c, d, rfl, rfl, rfl, hlies, hR6, hC6⟩ := HM.out x y z hmem
      have hrc : r ≤ 5 ∧ c ≤ 5 ∧ (d = 0 ∨ d = 1) := by rcases hlies with h | h <;> omega
      have hbdk := HBD.out k hk
      have HSTEP : Hid (apartL L (ps.take (k + 1)) = stepA L (apartL L (ps.take k)) ((r : Int), (c : Int), (d : Int))) := by unfold Hid; rw [HSN.out k hlt, ← HZ.out]
      have HFI := Lib.hid (fun k hk => fIdx_lt (k := k) hlies hk hR6 hC6)
      obtain ⟨t, ht⟩ : ∃ t, t = (apartL L (ps.take k)).1 := ⟨_, rfl⟩
      obtain ⟨q, hq⟩ : ∃ q, q = (apartL L (ps.take k)).2 := ⟨_, rfl⟩
      have HTQ : Hid (apartL L (ps.take k) = (t, q)) := by rw [ht, hq]; rfl
      rw [← ht] at hap hbdk
      rw [← hq] at hbdk ⊢
      obtain ⟨htl, hql⟩ := hbdk
      have HTL := Lib.hid htl
      obtain ⟨W2, hW2⟩ : ∃ W2 : World, W2 = wo.alloc (.cells #[.int .i64 r, .int .i64 c, .int .i64 d] 26) := ⟨_, rfl⟩
      have HAP1 : Hid (ApI 75 w W2 w1.heap.size w.heap.size (some ⟨g0, off0, none⟩) cp ps t) := by
        rw [hW2]; exact hap.on ((Below.refl _ _).alloc (Nat.le_refl _) _)
      have hs2 : W2.heap.size = wo.heap.size + 1 := by rw [hW2]; simp
      have HG : Hid (W2.heap[wo.heap.size]? = some (.cells #[.int .i64 r, .int .i64 c, .int .i64 d] 26 (0, 0))) := by rw [hW2]; exact heap_alloc_new _ _
      have HW2 := Lib.hid hW2
      have hlo : w.heap.size + 1 ≤ wo.heap.size := by have := hap.lt; have := hap.size; omega
      clear hap hmem hlies hr0 ht hq htl hW2
      go_wp2_with fail
      rw [← HW2.out]
      go_loopg [11, 37] L (fun g2 f i wr2 => ∃ j : Nat, j ≤ L ∧ g2 = L - j ∧ i = .int .i64 j ∧ f = .bool (freeN t r c d j) ∧ Below W2.heap.size W2 wr2)
      case atStart => exact ⟨0, Nat.zero_le _, rfl, rfl, rfl, Below.refl _ _⟩
      case round =>
        obtain ⟨j, hj, rfl, rfl, rfl, hb⟩ := hrel
        have HB2 := Lib.hid hb
        clear hb
        by_cases hjl : j < L
        · obtain ⟨⟨x0, x1, x2⟩, -, -, -, -⟩ := blk3 ((HB2.out.block _ (by omega)).trans HG.out)
          have er : (r : Int) + (j : Int) * (d : Int) = ((r + j * d : Nat) : Int) := by rw [Int.natCast_add, Int.natCast_mul]
          have ec : (c : Int) + (j : Int) * (1 - (d : Int)) = ((c + j * (1 - d) : Nat) : Int) := by
            rcases hrc.2.2 with rfl | rfl <;> simp
          have HER := Lib.hid er
          have HEC := Lib.hid ec
          have HFS := Lib.hid (freeN_succ t r c d j)
          obtain ⟨hf36, hr', hc'⟩ := HFI.out j hjl
          obtain ⟨fb, hfb⟩ : ∃ b, b = freeN t r c d j := ⟨_, rfl⟩
          rw [← hfb] at HFS ⊢
          clear er ec hfb
          go_wp2_with fail
          refine (field_any r c d j _ (by omega) (by omega) (by omega) (by omega)).mono ?_
          rintro e w3 ⟨rfl, b3⟩
          have HB3 := Lib.hid (HB2.out.trans (b3.mono HB2.out.size))
          have hcell := (HAP1.out.on HB3.out).bl.cell (fIdx r c d j) (by rw [HTL.out]; exact hf36)
          rw [HER.out, HEC.out]
          obtain ⟨bb, hbb⟩ : ∃ b, b = t.getD (fIdx r c d j) false := ⟨_, rfl⟩
          rw [← hbb] at hcell HFS
          unfold fIdx at hcell hf36
          generalize r + j * d = r' at *
          generalize c + j * (1 - d) = c' at *
          clear b3 x0 x1 x2 hbb HB2
          rcases fb with _ | _
          · go_wp2
            go_roundg (L - (j + 1))
            case measure => omega
            case rel => exact ⟨j + 1, by omega, rfl, by go_num, by rw [HFS.out]; rfl, HB3.out⟩
          · rcases bb with _ | _
            all_goals
              go_wp2
              go_roundg (L - (j + 1))
              case measure => omega
              case rel => exact ⟨j + 1, by omega, rfl, by go_num, by rw [HFS.out]; rfl, HB3.out⟩
        · have hj' : j = L := by omega
          subst hj'
          obtain ⟨fb, hfb⟩ : ∃ b, b = freeN t r c d j := ⟨_, rfl⟩
          rw [← hfb]
          have HFB := Lib.hid hfb
          have HAP2 := Lib.hid (HAP1.out.on HB2.out)
          have HG2 : Hid (wr.heap[wo.heap.size]? = some (.cells #[.int .i64 r, .int .i64 c, .int .i64 d] 26 (0, 0))) := (HB2.out.block _ (by omega)).trans HG.out
          have hs4 := HB2.out.size
          clear hfb HB2
          rcases fb with _ | _
          · have HF2 : Hid (apartL j (ps.take (k + 1)) = (t, q)) := by
              unfold Hid
              rw [HSTEP.out, HTQ.out]
              unfold stepA
              rw [if_neg (by simpa using HFB.out.symm)]
            go_wp2
            go_roundg (ps.length - (k + 1))
            case measure => omega
            case rel => exact ⟨k + 1, by omega, rfl, by go_num, by rw [HF2.out], by rw [HF2.out]; exact HAP2.out⟩
          · have HF2 : Hid (apartL j (ps.take (k + 1)) = (takeN t r c d j, q + 1)) := by
              unfold Hid
              rw [HSTEP.out, HTQ.out]
              unfold stepA
              rw [if_pos (by simpa using HFB.out.symm)]
              simp
            go_wp2_with fail
            go_loopg [61] j (fun g3 i wr3 => ∃ n : Nat, n ≤ j ∧ g3 = j - n ∧ i = .int .i64 n ∧ ApI 75 w wr3 w1.heap.size w.heap.size (some ⟨g0, off0, none⟩) cp ps (takeN t r c d n) ∧ wr3.heap[wo.heap.size]? = some (.cells #[.int .i64 r, .int .i64 c, .int .i64 d] 26 (0, 0)))
            case atStart => exact ⟨0, Nat.zero_le _, rfl, rfl, HAP2.out, HG2.out⟩
            case round =>
              clear HAP2 HG2
              obtain ⟨n, hn, rfl, rfl, hap, hg⟩ := hrel
              have HAP3 := Lib.hid hap
              have HG3 := Lib.hid hg
              clear hap hg
              by_cases hnl : n < j
              · obtain ⟨⟨x0, x1, x2⟩, -, -, -, -⟩ := blk3 HG3.out
                have er : (r : Int) + (n : Int) * (d : Int) = ((r + n * d : Nat) : Int) := by rw [Int.natCast_add, Int.natCast_mul]
                have ec : (c : Int) + (n : Int) * (1 - (d : Int)) = ((c + n * (1 - d) : Nat) : Int) := by
                  rcases hrc.2.2 with rfl | rfl <;> simp
                have HER := Lib.hid er
                have HEC := Lib.hid ec
                obtain ⟨hf36, hr', hc'⟩ := HFI.out n hnl
                clear er ec
                go_wp2_with fail
                refine (field_any r c d n _ (by omega) (by omega) (by omega) (by omega)).mono ?_
                rintro e w5 ⟨rfl, b5⟩
                have HAP4 := Lib.hid (HAP3.out.on b5)
                have hlt5 := (Array.getElem?_eq_some_iff.1 HG3.out).1
                have HG4 := Lib.hid ((b5.block _ hlt5).trans HG3.out)
                have hcell := HAP4.out.bl.cell (fIdx r c d n) (by rw [length_takeN, HTL.out]; exact hf36)
                have hfroz := HAP4.out.bl.frozen (fIdx r c d n)
                have HAN := Lib.hid (HAP4.out.set (Nat.le_refl _) (fIdx r c d n))
                rw [HER.out, HEC.out]
                rw [← takeN_succ] at HAN
                unfold fIdx at hcell hf36 hfroz HAN
                have HG5 := Lib.hid ((heap_setCell_other w5 ⟨w.heap.size, (r + n * d) * 6 + (c + n * (1 - d)), none⟩ wo.heap.size (.bool true) (by show wo.heap.size ≠ w.heap.size; omega)).trans HG4.out)
                generalize r + n * d = r' at *
                generalize c + n * (1 - d) = c' at *
                generalize (takeN t r c d n).getD (r' * 6 + c') false = bo at *
                clear b5 x0 x1 x2 HAP3 HG3 HAP4 HG4 hlt5
                go_wp2
                go_roundg (j - (n + 1))
                case measure => omega
                case rel => exact ⟨n + 1, by omega, rfl, by go_num, HAN.out, HG5.out⟩
              · have hn' : n = j := by omega
                subst hn'
                go_wp2
                go_roundg (ps.length - (k + 1))
                case measure => omega
                case rel => exact ⟨k + 1, by omega, rfl, by go_num, by rw [HF2.out]; go_num, by rw [HF2.out]; exact HAP3.out⟩
    · have hk' : k = ps.length := by omega
      subst hk'
      rw [List.take_length] at hap ⊢
      go_wp2
      go_ret
      exact ⟨ret_int HI.out.symm, hap.below⟩
end Go.Proofs.Ytahamfgkcnepgaa

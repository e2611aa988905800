/- StillAt of the program: the places of a ship that are not hit. -/
import Derived.Test.YtahamfgkcnepgaaDel
import Derived.Deep.AppendLies
namespace Go.Proofs.Ytahamfgkcnepgaa
open Go.RowKit

def hitP (zss : List (List Int)) (L : Nat) (p : Pl) : Int := hN zss p.1.toNat p.2.1.toNat p.2.2.toNat L
def stillI (rows cols : Int) (zss : List (List Int)) (long : Int) : List Pl := if shotsB rows cols zss then (placesI rows cols long).filter fun p => hitsI rows cols zss p long == 0 else []

theorem contains_yes {ps : List Pl} {p : Pl} (h : p ∈ ps) : ps.contains p = true := by rw [List.contains_eq_mem]; simpa using h
theorem hitsI_in {rows cols long : Int} {zss : List (List Int)} {p : Pl} (hs : shotsB rows cols zss = true) (hp : p ∈ placesI rows cols long) : hitsI rows cols zss p long = hitP zss long.toNat p := by
  unfold hitsI hitP; rw [hs, contains_yes hp]; rfl
theorem hitP_bd {rows cols long : Int} {zss : List (List Int)} {p : Pl} (hs : shotsB rows cols zss = true) (hp : p ∈ placesI rows cols long) : 0 ≤ hitP zss long.toNat p ∧ hitP zss long.toNat p ≤ long := by
  obtain ⟨R, C, L, r, c, d, rfl, rfl, rfl, hb, rfl, hl, h1⟩ := mem_placesI hp
  exact hN_bd hs hl L (Nat.le_refl _)
theorem stillI_del {rows cols long : Int} {zss : List (List Int)} (hs : shotsB rows cols zss = true) : stillI rows cols zss long = (placesI rows cols long).filter fun p => !decide (0 < hitP zss long.toNat p) := by
  unfold stillI
  rw [if_pos hs]
  refine List.filter_congr fun p hp => ?_
  have := (hitP_bd hs hp).1
  rw [hitsI_in hs hp]
  by_cases h : hitP zss long.toNat p = 0
  · rw [h]; rfl
  · have h1 : (hitP zss long.toNat p == 0) = false := by simpa using h
    have h2 : 0 < hitP zss long.toNat p := by omega
    rw [h1, decide_eq_true h2]; rfl

set_option maxRecDepth 100000 in
theorem still1_any (v : Value) (zss : List (List Int)) (bs bl R C L r c d : Nat) (w : World) (h : RdR w v zss) (h1 : w.cell? ⟨bs, 0, none⟩ = some v) (h2 : w.cell? ⟨bl, 0, none⟩ = some (.int .i64 L)) (hs : shotsB R C zss = true) (hl : Lies R C L r c d) (hL : L ≤ 6) (hL1 : 1 ≤ L) :
    Calls Try.prog 83 #[.agg #[.int .i64 r, .int .i64 c, .int .i64 d], .pointer (some ⟨bs, 0, none⟩), .pointer (some ⟨bl, 0, none⟩)] w fun e w' => e = .returned (.bool (decide (0 < hN zss r c d L))) ∧ Below w.heap.size w w' := by
  have hbW : Below w.heap.size w (w.alloc (.cells #[.int .i64 r, .int .i64 c, .int .i64 d] 26)) := (Below.refl _ _).alloc (Nat.le_refl _) _
  have n1 := block_lt_of_cell h1
  have n2 := block_lt_of_cell h2
  have hR := h.below hbW
  have HB := Lib.hid hbW
  obtain ⟨a, cp, rfl, -, -, -⟩ := h
  clear hbW
  go_enter Try.func83, Try.ntmps83
  go_wp2_with fail
  refine (hits_any _ zss R C L r c d _ hR hs hl hL hL1).mono ?_
  rintro e w1 ⟨rfl, b1⟩
  have HB1 := Lib.hid (HB.out.trans (b1.mono HB.out.size))
  clear b1 h1 h2 hR
  go_wp2
  go_ret
  exact ⟨rfl, HB1.out⟩

set_option maxHeartbeats 1600000 in
set_option maxRecDepth 100000 in
theorem implStillAt_any (rows cols long : Int) (v : Value) (zss : List (List Int)) (w : World) (h : RdR w v zss) :
    Calls Try.prog 56 #[.int .i64 rows, .int .i64 cols, v, .int .i64 long] w fun e w' => ∃ v', e = .returned v' ∧ OwnP w' w.heap.size w'.heap.size v' (stillI rows cols zss long) ∧ Below w.heap.size w w' := by
  obtain ⟨W, hW⟩ : ∃ W : World, W = (w.alloc (.cells #[v] 24)).alloc (.cells #[.int .i64 long] 3) := ⟨_, rfl⟩
  have hbW : Below w.heap.size w W := by rw [hW]; exact ((Below.refl _ _).alloc (Nat.le_refl _) _).alloc (by simp) _
  have q1 : W.cell? ⟨w.heap.size, 0, none⟩ = some v := by rw [hW, World.cell?_alloc_past _ _ _ (by simp), World.cell?_alloc_at _ _ _ _ rfl]; rfl
  have q2 : W.cell? ⟨w.heap.size + 1, 0, none⟩ = some (.int .i64 long) := by rw [hW, World.cell?_alloc_at _ _ _ _ (by simp)]; rfl
  have hsW : W.heap.size = w.heap.size + 2 := by rw [hW]; simp
  have hR := h.below hbW
  have HW := Lib.hid hW; have HB := Lib.hid hbW; have HR := Lib.hid hR
  have H1 := Lib.hid q1; have H2 := Lib.hid q2; have HS := Lib.hid hsW
  obtain ⟨a, cp, rfl, -, -, -⟩ := h
  clear hW hbW hsW
  go_enter Try.func56, Try.ntmps56
  go_wp2_with fail
  rw [← HW.out]
  refine (implShotsOk_any rows cols _ zss _ hR).mono ?_
  rintro e w1 ⟨rfl, b1⟩
  have m1 := (b1.cell (p := ⟨w.heap.size, 0, none⟩) (block_lt_of_cell q1)).trans q1
  have m2 := (b1.cell (p := ⟨w.heap.size + 1, 0, none⟩) (block_lt_of_cell q2)).trans q2
  have HB1 := Lib.hid b1
  have HB1' := Lib.hid (HB.out.trans (b1.mono HB.out.size))
  rcases Bool.eq_false_or_eq_true (shotsB rows cols zss) with hs | hs
  rotate_left
  · rw [hs]
    have HF : Hid (stillI rows cols zss long = []) := by unfold Hid stillI; rw [hs]; rfl
    clear hs b1 hR
    go_wp2
    go_ret
    exact ⟨_, rfl, by rw [HF.out]; exact ownP_nil _ _ _, HB1'.out⟩
  · rw [hs]
    have HSH := Lib.hid hs
    have HF := Lib.hid (stillI_del (long := long) hs)
    clear hs b1 hR q1 q2
    go_wp2_with fail
    refine (implPlacesOf_any rows cols long w1).mono ?_
    rintro e w2 ⟨v2, rfl, o2, b2⟩
    have hBW := HB1.out.trans (b2.mono HB1.out.size)
    have HP : PlPred W.heap.size W (.pointer (some ⟨w.heap.size, 0, none⟩)) (.pointer (some ⟨w.heap.size + 1, 0, none⟩)) (fun p => decide (0 < hitP zss long.toNat p)) (placesI rows cols long) := by
      intro V hV x y z hm
      obtain ⟨R, C, L, r, c, d, rfl, rfl, rfl, hb, hp, hl, hL1⟩ := mem_placesI hm
      injection hp with e1 e2
      injection e2 with e2 e3
      subst e1 e2 e3
      have hL6 : L ≤ 6 := by have := (placesB_yes hb).2.2; omega
      exact still1_any _ zss w.heap.size (w.heap.size + 1) R C L r c d V (HR.out.below hV) ((hV.cell (p := ⟨w.heap.size, 0, none⟩) (block_lt_of_cell H1.out)).trans H1.out) ((hV.cell (p := ⟨w.heap.size + 1, 0, none⟩) (block_lt_of_cell H2.out)).trans H2.out) HSH.out hl hL6 hL1
    have s1 := HB1.out.size
    have s2 := b2.size
    have HDel := Lib.hid (DeleteFunc_pl v2 (placesI rows cols long) (fun p => decide (0 < hitP zss long.toNat p)) _ _ W.heap.size w1.heap.size w2.heap.size W w2 o2 s1 s2 hBW (by omega) HP)
    have HB2 := Lib.hid (HB1'.out.trans (b2.mono HB1'.out.size))
    clear HP hBW b2 o2 m1 m2
    go_wp2_with fail
    refine HDel.out.mono ?_
    rintro e w3 ⟨v3, rfl, o3, b3, s3⟩
    have HB3 := Lib.hid (HB2.out.trans (b3.mono HB1'.out.size))
    have HO3 := Lib.hid o3
    have HW1 := Lib.hid HB1'.out.size
    clear b3 o3
    go_wp2
    go_ret
    exact ⟨_, rfl, by rw [HF.out]; exact HO3.out.wide HW1.out s3, HB3.out⟩

set_option maxHeartbeats 1600000 in
set_option maxRecDepth 100000 in
theorem specStillAt_any (rows cols long : Int) (v : Value) (zss : List (List Int)) (w : World) (h : RdR w v zss) :
    Calls Try.prog 57 #[.int .i64 rows, .int .i64 cols, v, .int .i64 long] w fun e w' => ∃ v', e = .returned v' ∧ OwnP w' w.heap.size w'.heap.size v' (stillI rows cols zss long) ∧ Below w.heap.size w w' := by
  obtain ⟨i0, hi, hz0, hz1, hz2⟩ := info_parts infoPlace
  obtain ⟨W, hW⟩ : ∃ W : World, W = w.alloc (.cells #[] 26) := ⟨_, rfl⟩
  have hbW : Below w.heap.size w W := by rw [hW]; exact (Below.refl _ _).alloc (Nat.le_refl _) _
  have hsW : W.heap.size = w.heap.size + 1 := by rw [hW]; simp
  have o1 : OwnP W w.heap.size (w.heap.size + 1) (.slice (some ⟨w.heap.size, 0, none⟩) 0 0) [] := by rw [hW]; exact ownP_lit w
  have hR := h.below hbW
  have HR0 := Lib.hid h
  have HW := Lib.hid hW; have HO := Lib.hid o1; have HB := Lib.hid hbW; have HR := Lib.hid hR
  clear hW o1 hbW h
  go_enter Try.func57, Try.ntmps57
  go_wp2_with fail
  rw [← HW.out]
  refine (specShotsOk_any rows cols v zss W hR).mono ?_
  rintro e w1 ⟨rfl, rfl⟩
  rcases Bool.eq_false_or_eq_true (shotsB rows cols zss) with hs | hs
  rotate_left
  · rw [hs]
    have HF : Hid (stillI rows cols zss long = []) := by unfold Hid stillI; rw [hs]; rfl
    clear hs hR
    go_wp2
    go_ret
    exact ⟨_, rfl, by rw [HF.out, hsW]; exact HO.out, HB.out⟩
  · rw [hs]
    have HSH := Lib.hid hs
    have HF : Hid (stillI rows cols zss long = (placesI rows cols long).filter fun p => hitsI rows cols zss p long == 0) := by unfold Hid stillI; rw [hs]; rfl
    have hlen := length_placesI rows cols long
    have HM : Hid (∀ x y z : Int, (x, y, z) ∈ placesI rows cols long → (-9223372036854775808 ≤ x ∧ x ≤ 9223372036854775807) ∧ (-9223372036854775808 ≤ y ∧ y ≤ 9223372036854775807)) := by
      intro x y z hm
      obtain ⟨R, C, L, r, c, d, rfl, rfl, rfl, hb, hp, hl, hL1⟩ := mem_placesI hm
      injection hp with e1 e2
      injection e2 with e2 e3
      subst e1 e2 e3
      obtain ⟨p1, p2, p3⟩ := placesB_yes hb
      rcases hl with ⟨_, h1, h2⟩ | ⟨_, h1, h2⟩ <;> omega
    clear hs
    go_wp2_with fail
    refine (specPlacesOf_any rows cols long _).mono ?_
    rintro e w2 ⟨v2, rfl, o2, b2⟩
    obtain ⟨ps, hps⟩ : ∃ ps, ps = placesI rows cols long := ⟨_, rfl⟩
    rw [← hps] at o2 hlen HM HF
    have s2 := b2.size
    have HB2 := Lib.hid (HB.out.trans (b2.mono HB.out.size))
    have hrd := o2.rd
    have HO2 := Lib.hid o2
    have ho := (HO.out.below b2 (by omega)).wide (Nat.le_refl _) (show w.heap.size + 1 ≤ w2.heap.size by omega)
    have HV : Hid (∀ k, (Value.slice (some ⟨w.heap.size, 0, none⟩) 0 0).ownBlock = some k → k = w.heap.size ∨ w2.heap.size ≤ k) := fun k hk => .inl (by injection hk with hk; exact hk.symm)
    obtain ⟨a, cp, rfl, l1, m1, -⟩ := hrd
    clear b2 o2 hps hR
    go_wp2_with fail
    go_loopw [9, 11] (fun u i wr => ∃ k : Nat, k ≤ ps.length ∧ i = .int .i64 k ∧ OwnP wr w.heap.size wr.heap.size u ((ps.take k).filter fun p => hitsI rows cols zss p long == 0) ∧ Below w.heap.size w wr ∧ Hid (∀ j, w.heap.size < j → j < w2.heap.size → wr.heap[j]? = w2.heap[j]?) ∧ Hid (∀ k, u.ownBlock = some k → k = w.heap.size ∨ w2.heap.size ≤ k) ∧ w2.heap.size ≤ wr.heap.size) (fun _ i _ => ps.length - (intOf i).toNat)
    case atStart => exact ⟨0, Nat.zero_le _, rfl, by simpa using ho, HB2.out, (fun _ _ _ => rfl), HV, Nat.le_refl _⟩
    case round =>
      clear ho
      obtain ⟨k, hk, rfl, hro, hbr, hbr2, hv, hsr⟩ := hrel
      by_cases hlt : k < ps.length
      · obtain ⟨_, _, e1, _, _, r1⟩ := (HO2.out.keep fun j h1 h2 => hbr2.out j (by omega) h2).rd
        injection e1 with e3 e4 e5; subst e3 e5
        obtain ⟨g1, o1, x, y, z, rfl, hg1, ⟨q0, q1, q2⟩, Z1⟩ := rdP_at r1 k hlt
        have hxy := HM.out x y z (memP hlt Z1.out)
        have hcall := specHitsOf_any rows cols long v zss x y z wr (HR0.out.below hbr) hxy.1 hxy.2
        clear r1 e4
        go_wp2_with fail
        refine hcall.mono ?_
        rintro e w3 ⟨rfl, b3⟩
        have s3 := b3.size
        have n0 := (b3.cell (p := ⟨g1, o1 + k * 3, none⟩) hg1).trans q0
        have n1 := (b3.cell (p := ⟨g1, o1 + k * 3 + 1, none⟩) hg1).trans q1
        have n2 := (b3.cell (p := ⟨g1, o1 + k * 3 + 2, none⟩) hg1).trans q2
        have hb3 := hbr.trans (b3.mono (by omega))
        have HB32 : Hid (∀ j, w.heap.size < j → j < w2.heap.size → w3.heap[j]? = w2.heap[j]?) := fun j h1 h2 => (b3.block j (by omega)).trans (hbr2.out j h1 h2)
        have hs32 : w2.heap.size ≤ w3.heap.size := by omega
        have ho3 := (hro.below b3 (Nat.le_refl _)).wide (Nat.le_refl _) s3
        have hs3 : w.heap.size ≤ w3.heap.size := by omega
        have hlf : ((ps.take k).filter fun p => hitsI rows cols zss p long == 0).length ≤ k := Nat.le_trans (List.length_filter_le _ _) (by rw [List.length_take]; omega)
        clear q0 q1 q2 b3 hro hbr hcall hxy
        by_cases hz : hitsI rows cols zss (x, y, z) long = 0
        · have hzb : (hitsI rows cols zss (x, y, z) long == 0) = true := by simpa using hz
          have HS : Hid (((ps.take (k + 1)).filter fun p => hitsI rows cols zss p long == 0) = ((ps.take k).filter fun p => hitsI rows cols zss p long == 0) ++ [(x, y, z)]) := by
            unfold Hid
            rw [takeP_snoc ps k hlt, List.filter_append, ← Z1.out]
            simp [hz]
          generalize (ps.take k).filter (fun p => hitsI rows cols zss p long == 0) = qs at ho3 hlf HS
          rw [hz]
          clear hz hzb
          go_wp2_with (first | (at_builtin; go_loud (refine wpList_append_lies _ rfl _ _ 33 rfl w.heap.size 26 i0 (.agg #[.int .i64 0, .int .i64 0, .int .i64 0]) 3 24 Try.underlying33 hi hz0 hz1 hz2 rfl (by decide) _ _ _ rfl (ho3.1.alloc _) ⟨w3.heap.size, 0, none⟩ 1 1 [.int .i64 x, .int .i64 y, .int .i64 z] rfl rfl (three_new _ _ _ _ _) (three_cell _ _ _) (by decide) ?c2 ?c3 ?c4 (w3.heap.size + 1) ?c5 ?_)) | go_in)
          case c2 => unfold maxLen; omega
          case c3 => omega
          case c4 => simp; omega
          case c5 => simp
          intro g4 cap4 w4 hown' hgr hlie _
          have hrel := place_app (p := (x, y, z)) ho3 hb3 (Nat.le_refl _) hs3 hown' hgr
          rw [← HS.out] at hrel
          have HR4 := Lib.hid hrel
          have HB42 : Hid (∀ j, w.heap.size < j → j < w2.heap.size → w4.heap[j]? = w2.heap[j]?) := fun j h1 h2 => by
            rw [hgr.block j (by simp; omega) (fun e => by rcases hv.out j e.symm with h | h <;> omega), Below.heap_alloc _ _ _ (by omega)]
            exact HB32.out j h1 h2
          have HV4 : Hid (∀ k, (Value.slice (some ⟨g4, 0, none⟩) (qs.length + 1) cap4).ownBlock = some k → k = w.heap.size ∨ w2.heap.size ≤ k) := fun k hk => by
            have hk' : g4 = k := by injection hk
            rcases hlie with h | h
            · exact hv.out k (by rw [h, hk'])
            · omega
          have hs42 : w2.heap.size ≤ w4.heap.size := by have := hgr.size; rw [World.size_alloc] at this; omega
          clear hrel ho3 hb3 hs3 hown' hgr hlie hz0 hz1 hz2 hi
          go_wp2
          go_roundw
          case rel => exact ⟨k + 1, by omega, by go_num, HR4.out.1, HR4.out.2.1, HB42, HV4, hs42⟩
          case measure => simp [intOf]; omega
        · have hzb : (hitsI rows cols zss (x, y, z) long == 0) = false := by simpa using hz
          have HS : Hid (((ps.take (k + 1)).filter fun p => hitsI rows cols zss p long == 0) = ((ps.take k).filter fun p => hitsI rows cols zss p long == 0)) := by
            unfold Hid
            rw [takeP_snoc ps k hlt, List.filter_append, ← Z1.out]
            simp [hz]
          rw [← HS.out] at ho3
          have HO3 := Lib.hid ho3
          clear ho3 hz hz0 hz1 hz2 hi
          go_wp2
          go_roundw
          case rel => exact ⟨k + 1, by omega, by go_num, HO3.out, hb3, HB32, hv, hs32⟩
          case measure => simp [intOf]; omega
      · have hk' : k = ps.length := by omega
        subst hk'
        rw [List.take_length, ← HF.out] at hro
        have HO3 := Lib.hid hro; have HE := Lib.hid hbr
        clear hro hbr
        go_wp2
        go_ret
        exact ⟨_, rfl, HO3.out, HE.out⟩
end Go.Proofs.Ytahamfgkcnepgaa

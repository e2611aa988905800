/- The walk of the law on StillAt. -/
import Derived.Test.YtahamfgkcnepgaaSure
import Derived.Test.YtahamfgkcnepgaaDrawSt
import Derived.Test.YtahamfgkcnepgaaAlive
import Derived.BigQuiet
namespace Go.Proofs.Ytahamfgkcnepgaa
open Go.RowKit

set_option maxRecDepth 100000 in
theorem DrawStillAt_any (a : Option Addr) (len cap : Nat) (bs : List Int) (w : World) (h : IsRowB .u8 w a len cap bs) :
    Calls Try.prog 55 #[.slice a len cap] w fun e w' => (∃ r c v l zss, e = .returned (.tuple #[.int .i64 r, .int .i64 c, v, .int .i64 l]) ∧ RdR w' v zss) ∧ Below w.heap.size w w' := by
  go_enter Try.func55, Try.ntmps55
  go_wp2_with fail
  refine (open_any _ _ _ bs _ h).mono ?_
  rintro e w1 ⟨⟨g, rfl, hg1, hg2, hr⟩, b1⟩
  go_wp2_with fail
  refine (shots_any g 0 9 _ hr (by omega)).mono ?_
  rintro e w2 ⟨⟨r, c, l, v, zss, rfl, h1, h2, h3, h4, h5, h6⟩, -, t2⟩
  have hb := below_turned b1 t2 hg1 b1.size
  clear t2 b1 hr
  go_wp2
  refine bodyPost_ret (v := .tuple #[.int .i64 r, .int .i64 c, v, .int .i64 l]) (by simp [results, Try.results55, go_sem]) rfl ?_
  exact ⟨⟨_, _, _, _, _, rfl, h4⟩, hb⟩

/-- What stands at the place of the filtered list. -/
theorem filter_at (z : Pl → Bool) (ps : List Pl) (k : Nat) (hk : k < ps.length) (hz : z (ps.getD k (0, 0, 0)) = true) :
    ((ps.take k).filter z).length < (ps.filter z).length ∧ (ps.filter z).getD ((ps.take k).filter z).length (0, 0, 0) = ps.getD k (0, 0, 0) := by
  have e : ps.filter z = (ps.take k).filter z ++ (ps.drop k).filter z := by rw [← List.filter_append, List.take_append_drop]
  have e2 : (ps.drop k).filter z = ps.getD k (0, 0, 0) :: (ps.drop (k + 1)).filter z := by
    rw [List.drop_eq_getElem_cons hk, List.filter_cons]
    simp [List.getD, List.getElem?_eq_getElem hk] at hz ⊢
    simp [hz]
  rw [e, e2]
  refine ⟨by simp, ?_⟩
  simp [List.getD]

set_option maxHeartbeats 1600000 in
set_option maxRecDepth 100000 in
theorem walk_FnStillAt (a0 : Option Addr) (len0 cap0 : Nat) (z0 : List Int) (w : World) (w0 : IsRowB .u8 w a0 len0 cap0 z0) :
    Calls Try.prog 18 #[.slice a0 len0 cap0] w fun e w' => e = .returned (.bool true) ∧ Below w.heap.size w w' := by
  by_cases hlen : 1048576 < len0
  · go_enter Try.func18, Try.ntmps18
    go_wp2
    go_ret
    exact ⟨rfl, Below.refl _ _⟩
  · go_enter Try.func18, Try.ntmps18
    go_wp2_with fail
    refine (DrawStillAt_any _ _ _ _ _ w0).mono ?_
    rintro e w1 ⟨⟨r, c, v, l, zss, rfl, hR⟩, b1⟩
    clear w0
    go_wp2_with fail
    refine (implStillAt_any r c l v zss _ hR).mono ?_
    rintro e w2 ⟨v2, rfl, o2, b2⟩
    have hR2 := hR.below b2
    have bb := b1.trans (b2.mono b1.size)
    clear b1 b2 hR
    go_wp2_with fail
    refine (specStillAt_any r c l v zss _ hR2).mono ?_
    rintro e w3 ⟨v3, rfl, o3, b3⟩
    have hR3 := hR2.below b3
    have r2 := o2.rd.below b3
    have bb3 := bb.trans (b3.mono bb.size)
    have r3 := o3.rd
    clear bb b3 hR2 o2 o3
    go_wp2_with fail
    refine (samePlaces_true _ _ _ _ r2 r3).mono ?_
    rintro e w4 ⟨rfl, n, rfl⟩
    have HR2 := Lib.hid (r2.drewN n)
    have HB := Lib.hid (below_drewN bb3 n)
    have hR4 := RdR.drewN hR3 n
    clear r2 r3 bb3 hR3
    generalize w3.drewN n = w5 at *
    go_wp2_with fail
    refine (specShotsOk_any r c v zss _ hR4).mono ?_
    rintro e w6 ⟨rfl, rfl⟩
    obtain ⟨ls, hls⟩ : ∃ ls, ls = stillI r c zss l := ⟨_, rfl⟩
    rw [← hls] at HR2
    have HLS := Lib.hid hls
    clear hls
    rcases Bool.eq_false_or_eq_true (shotsB r c zss) with hb | hb
    rotate_left
    · rw [hb]
      have hl0 : ls = [] := by rw [HLS.out]; unfold stillI; rw [hb]; rfl
      subst hl0
      obtain ⟨a, cp, e7, -⟩ := HR2.out
      subst e7
      clear hb
      simp only [List.length_nil]
      go_wp2_with fail
      refine (alive_true _).mono ?_
      rintro e w5 ⟨rfl, rfl⟩
      go_wp2
      go_ret
      exact ⟨rfl, HB.out⟩
    · rw [hb]
      have HF : Hid (ls = (placesI r c l).filter fun p => hitsI r c zss p l == 0) := by unfold Hid; rw [HLS.out]; unfold stillI; rw [hb]; rfl
      have hlen := length_placesI r c l
      clear hb
      go_wp2_with fail
      refine (implPlacesOf_any r c l _).mono ?_
      rintro e w7 ⟨v7, rfl, o7, b7⟩
      obtain ⟨ps, hps⟩ : ∃ ps, ps = placesI r c l := ⟨_, rfl⟩
      rw [← hps] at o7 hlen HF
      have HL2 := Lib.hid (HR2.out.below b7)
      have HP7 := Lib.hid o7.rd
      have HV7 := Lib.hid (hR4.below b7)
      have HB7 := Lib.hid (HB.out.trans (b7.mono HB.out.size))
      have s7 := HB7.out.size
      have hll : ls.length ≤ ps.length := by rw [HF.out]; exact List.length_filter_le _ _
      obtain ⟨a2, cp2, rfl, l2, m2, -⟩ := HL2.out
      obtain ⟨a7, cp7, rfl, l7, m7, -⟩ := HP7.out
      clear b7 o7 hps hR4
      go_wp2_with fail
      go_loopw [9, 10] (fun q i wr => ∃ k m : Nat, k ≤ ps.length ∧ i = .int .i64 k ∧ q = .int .i64 m ∧ m ≤ k ∧ Hid (m = ((ps.take k).filter fun p => hitsI r c zss p l == 0).length) ∧ Below w7.heap.size w7 wr) (fun _ i _ => ps.length - (intOf i).toNat)
      case atStart => exact ⟨0, 0, Nat.zero_le _, rfl, rfl, Nat.le_refl _, rfl, Below.refl _ _⟩
      case round =>
        obtain ⟨k, m, hk, rfl, rfl, hmk, hm, hbr⟩ := hrel
        by_cases hlt : k < ps.length
        · obtain ⟨_, _, e1, _, _, r1⟩ := HP7.out.below hbr
          injection e1 with e3 e4 e5; subst e3 e5
          obtain ⟨g1, o1, x, y, z, rfl, hg1, ⟨q0, q1, q2⟩, Z1⟩ := rdP_at r1 k hlt
          have hcall := implHitsOf_any r c l v zss x y z wr (HV7.out.below hbr)
          clear r1 e4
          go_wp2_with fail
          refine hcall.mono ?_
          rintro e w8 ⟨rfl, b8⟩
          have n0 := (b8.cell (p := ⟨g1, o1 + k * 3, none⟩) hg1).trans q0
          have n1 := (b8.cell (p := ⟨g1, o1 + k * 3 + 1, none⟩) hg1).trans q1
          have n2 := (b8.cell (p := ⟨g1, o1 + k * 3 + 2, none⟩) hg1).trans q2
          have hb8 := hbr.trans (b8.mono hbr.size)
          clear q0 q1 q2 b8 hbr hcall
          by_cases hz : hitsI r c zss (x, y, z) l = 0
          · have hzb : (fun p => hitsI r c zss p l == 0) (ps.getD k (0, 0, 0)) = true := by rw [← Z1.out]; simpa using hz
            obtain ⟨f1, f2⟩ := filter_at (fun p => hitsI r c zss p l == 0) ps k hlt hzb
            have HS : Hid (m + 1 = ((ps.take (k + 1)).filter fun p => hitsI r c zss p l == 0).length) := by
              unfold Hid
              rw [takeP_snoc ps k hlt, List.filter_append, List.length_append, ← hm.out, List.filter_cons, if_pos hzb]; rfl
            rw [← HF.out, ← hm.out] at f1 f2
            obtain ⟨_, _, e1, _, _, r1⟩ := HL2.out.below hb8
            injection e1 with e3 e4 e5; subst e3 e5
            obtain ⟨g3, o3, x', y', z', rfl, hg3, ⟨p0, p1, p2⟩, Z3⟩ := rdP_at r1 m f1
            have e9 := Z3.out.trans (f2.trans Z1.out.symm)
            injection e9 with e9 e10
            injection e10 with e10 e11
            subst e9 e10 e11
            have HB8 := Lib.hid hb8
            have hgt : decide ((ls.length : Int) < (m : Int) + 1) = false := by simp; omega
            have hlt3 : (m : Int) < (ls.length : Int) := by omega
            have hk3 : (k : Int) < (ps.length : Int) := by omega
            have hw3 : IntKind.i64.wrap ((m : Int) + 1 - 1) = m := by rw [IntKind.wrap_i64]; omega
            rw [hz]
            clear r1 Z3 f2 hz hzb e4 hb8
            go_wp2
            go_quiet (fail)
            go_wp2
            go_roundw
            case rel => exact ⟨k + 1, m + 1, by omega, by go_num, by go_num, by omega, HS, below_drewN HB8.out _⟩
            case measure => simp [intOf]; omega
          · have hzb : (hitsI r c zss (x, y, z) l == 0) = false := by simpa using hz
            have HS : Hid (m = ((ps.take (k + 1)).filter fun p => hitsI r c zss p l == 0).length) := by
              unfold Hid
              rw [takeP_snoc ps k hlt, List.filter_append, List.length_append, ← hm.out, List.filter_cons, if_neg (by rw [← Z1.out]; simpa using hz)]; rfl
            generalize hitsI r c zss (x, y, z) l = t at *
            clear hz
            go_wp2
            go_roundw
            case rel => exact ⟨k + 1, m, by omega, by go_num, rfl, by omega, HS, hb8⟩
            case measure => simp [intOf]; omega
        · have hk' : k = ps.length := by omega
          subst hk'
          have hmm : m = ls.length := by have := hm.out; rw [List.take_length, ← HF.out] at this; exact this
          have HE := Lib.hid (HB7.out.trans (hbr.mono s7))
          clear hbr
          go_wp2
          go_ret
          exact ⟨rfl, HE.out⟩
end Go.Proofs.Ytahamfgkcnepgaa

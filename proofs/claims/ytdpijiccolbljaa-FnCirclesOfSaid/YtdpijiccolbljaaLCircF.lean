/- The walk of the law on CirclesOf. -/
import Derived.Test.YtdpijiccolbljaaBackP
import Derived.Test.YtdpijiccolbljaaCircI
import Derived.Test.YtdpijiccolbljaaCircS
import Derived.Test.YtdpijiccolbljaaDrawsBx
import Derived.Test.YtdpijiccolbljaaAlive
namespace Go.Proofs.Ytdpijiccolbljaa
open Go.RowKit

theorem sumN_snoc (a : Nat) : ∀ l : List Nat, sumN (l ++ [a]) = sumN l + a
  | [] => by show a + 0 = 0 + a; omega
  | b :: l => by
    show b + sumN (l ++ [a]) = (b + sumN l) + a
    rw [sumN_snoc a l]; omega
theorem sumN_take (us : List Nat) (k : Nat) (h : k < us.length) : sumN (us.take (k + 1)) = sumN (us.take k) + nx us k := by rw [takeN_snoc us k h, sumN_snoc]
theorem sumN_take_le : ∀ (us : List Nat) (k : Nat), sumN (us.take k) ≤ sumN us
  | [], k => by simp
  | a :: l, 0 => Nat.zero_le _
  | a :: l, k + 1 => by
    have := sumN_take_le l k
    show a + sumN (l.take k) ≤ a + sumN l
    omega

set_option maxRecDepth 100000 in
theorem sumOf_any (v : Value) (us : List Nat) (w : World) (h : Rd w v (iz us)) (hb : sumN us ≤ 1000000) :
    Calls Try.prog 45 #[v] w fun e w' => e = .returned (.int .i64 (sumN us : Nat)) ∧ w' = w := by
  obtain ⟨a1, c1, rfl, l1, m1⟩ := rdN_out h
  have HR := Lib.hid h
  clear h
  go_enter Try.func45, Try.ntmps45
  go_wp2
  go_loop [3, 4] (fun s i => ∃ k : Nat, k ≤ us.length ∧ i = .int .i64 k ∧ s = .int .i64 (sumN (us.take k) : Nat)) (fun _ i => us.length - (intOf i).toNat)
  case atStart => exact ⟨0, Nat.zero_le _, rfl, rfl⟩
  case round =>
    obtain ⟨k, hk, rfl, rfl⟩ := hrel
    by_cases hlt : k < us.length
    · obtain ⟨g1, o1, rfl, hg1, x1⟩ := rdN_at HR.out k hlt
      have hs := sumN_take us k hlt
      have h1 := sumN_take_le us (k + 1)
      rw [hs] at h1
      obtain ⟨s, hs1⟩ : ∃ s, s = sumN (us.take k) := ⟨_, rfl⟩
      rw [← hs1] at hs h1 ⊢
      have HS := Lib.hid hs
      generalize nx us k = z at *
      clear hs hs1
      go_wp2
      go_round
      case rel => exact ⟨k + 1, by omega, by go_num, by rw [HS.out]; go_num⟩
      case measure => simp [intOf]; omega
    · have hk' : k = us.length := by omega
      subst hk'
      rw [List.take_length]
      go_wp2
      go_ret
      exact ⟨rfl, rfl⟩

set_option maxHeartbeats 1600000 in
set_option maxRecDepth 100000 in
theorem walk_FnCirclesOf (a0 : Option Addr) (len0 cap0 : Nat) (z0 : List Int) (w : World) (w0 : IsRowB .u8 w a0 len0 cap0 z0) :
    Calls Try.prog 16 #[.slice a0 len0 cap0] w fun e w' => e = .returned (.bool true) ∧ Below w.heap.size w w' := by
  by_cases hlen : 1048576 < len0
  · go_enter Try.func16, Try.ntmps16
    go_wp2
    go_ret
    exact ⟨rfl, Below.refl _ _⟩
  · obtain ⟨i0, hi, hz0, hz1, hz2⟩ := info_parts infoInt
    go_enter Try.func16, Try.ntmps16
    go_wp2_with fail
    with_reducible refine (DrawCirclesOf_any _ _ _ _ _ w0).mono ?_
    rintro e w1 ⟨⟨v, zs, rfl, hl, hr⟩, b1⟩
    clear w0
    go_wp2_with fail
    with_reducible refine (implCirclesOf_any _ zs _ hr).mono ?_
    rintro e w2 ⟨v2, rfl, o2, b2⟩
    have hr2 := hr.below b2
    have bb := b1.trans (b2.mono b1.size)
    clear b1 b2 hr
    go_wp2_with fail
    with_reducible refine (specCirclesOf_any _ zs _ hr2).mono ?_
    rintro e w3 ⟨v3, rfl, o3, b3⟩
    have hr3 := hr2.below b3
    have q2 := o2.rd.below b3
    have q3 := o3.rd
    have bb := bb.trans (b3.mono bb.size)
    clear b3 hr2 o2 o3
    go_wp2_with fail
    with_reducible refine (sameInts_true _ _ _ _ q2 q3).mono ?_
    rintro e w4 ⟨rfl, n, rfl⟩
    have HB := Lib.hid (below_drewN bb n)
    have hr2 := hr3.drewN n
    have q2 := q2.drewN n
    clear bb hr3 q3
    generalize w3.drewN n = w2 at *
    rcases Bool.eq_false_or_eq_true (boxB zs) with hb | hb
    rotate_left
    · rw [circI_no hb] at q2
      obtain ⟨A, c, rfl, -, -, -⟩ := q2
      have HBX := Lib.hid hb
      clear hb
      simp only [List.length_nil]
      go_wp2_with fail
      with_reducible refine (implBoxesOk_any _ zs _ hr2).mono ?_
      rintro e w' ⟨rfl, rfl⟩
      rw [HBX.out]
      go_wp2_with fail
      with_reducible refine (alive_true _).mono ?_
      rintro e w' ⟨rfl, rfl⟩
      go_wp2
      go_ret
      exact ⟨rfl, HB.out⟩
    · obtain ⟨ns, rfl, hP⟩ := boxB_perm hb
      have h7 := hP.hi
      have HL : Hid (∀ a, a < ns.length → nx ns a < ns.length) := fun a ha => hP.nx_lt ha
      have HP : Hid (circI (iz (back ns)) = iz (circG (nx ns) ns.length)) := by unfold Hid; rw [circI_iz (back_perm hP), back_circ hP]
      have HSUM := Lib.hid hP.sum
      rw [circI_iz hP] at q2
      obtain ⟨cs, hcs⟩ : ∃ cs, cs = circG (nx ns) ns.length := ⟨_, rfl⟩
      rw [← hcs] at HP HSUM q2
      have hcl : (1 : Int) ≤ cs.length := by have := hP.some; rw [hcs, length_circG]; omega
      have hc0 : ((cs.length : Int) == 0) = false := by rw [beq_eq_false_iff_ne]; omega
      obtain ⟨a2, c2, rfl, l2, m2⟩ := rdN_out q2
      have HQ := Lib.hid q2
      clear hcs q2
      obtain ⟨a1, c1, rfl, l1, m1⟩ := rdN_out hr2
      have HR := Lib.hid hr2
      have hs2 := HB.out.size
      clear hb hr2
      go_wp2_with (at_make; refine wpList_make_full _ rfl _ _ 22 rfl w2.heap.size 3 i0 (.int .i64 0) 1 Try.underlying22 hi hz0 hz1 _ _ _ _ ns.length rfl rfl rfl rfl ?c1 ?c2 ?c3 ?_)
      case c1 => rw [hz2]; omega
      case c2 => unfold maxLen; omega
      case c3 => exact Nat.le_refl _
      intro w3 hown hgr
      have e0 : (madeCells #[Value.int .i64 0] ns.length).toList = (iz (backF ns 0)).map (Value.int .i64) := (toList_madeCells_one _ _).trans (by simp [backF, iz])
      rw [e0] at hown
      have hb3 : Below w2.heap.size w2 w3 := (Below.refl _ _).grown hgr (Nat.le_refl _) (fun k hk => by cases hk)
      have HO : Hid (Own w3 w2.heap.size w3.heap.size (.slice (some ⟨w2.heap.size, 0, none⟩) ns.length ns.length) (iz (backF ns 0))) := Own.new (by rw [length_iz, length_backF]; exact hown) (Nat.le_refl _)
      have HB3 := Lib.hid hb3
      clear e0 hz0 hz1 hz2 hi hgr hown hb3
      go_wp2_with fail
      go_loopw [6] (fun i wr => ∃ k : Nat, k ≤ ns.length ∧ i = .int .i64 k ∧ Own wr w2.heap.size w3.heap.size (.slice (some ⟨w2.heap.size, 0, none⟩) ns.length ns.length) (iz (backF ns k)) ∧ Below w2.heap.size w2 wr) (fun i _ => ns.length - (intOf i).toNat)
      case atStart => exact ⟨0, Nat.zero_le _, rfl, HO.out, HB3.out⟩
      case round =>
        clear HO HB3
        obtain ⟨k, hk, rfl, ho, hb⟩ := hrel
        by_cases hlt : k < ns.length
        · obtain ⟨g1, o1, rfl, hg1, x1⟩ := rdN_at HR.out k hlt
          have y1 := (hb.cell (p := ⟨g1, o1 + k, none⟩) hg1).trans x1
          have hnl := HL.out k hlt
          have hll : (iz (backF ns k)).length = ns.length := by rw [length_iz, length_backF]
          have x2 := ho.cellAt (nx ns k) (by rw [hll]; exact hnl)
          have f2 := ho.frozenAt (nx ns k) hll.symm
          have s1 := ho.set (nx ns k) (k : Int) hll.symm
          rw [iz_set] at s1
          have HS : Hid (Own (wr.setCell ⟨w2.heap.size, nx ns k, none⟩ (.int .i64 (k : Int))) w2.heap.size w3.heap.size (.slice (some ⟨w2.heap.size, 0, none⟩) ns.length ns.length) (iz (backF ns (k + 1))) ∧ Below w2.heap.size w2 (wr.setCell ⟨w2.heap.size, nx ns k, none⟩ (.int .i64 (k : Int)))) :=
            ⟨s1.1, below_turned hb s1.2 (Nat.le_refl _) hb.size⟩
          generalize (iz (backF ns k)).getD (nx ns k) 0 = q at x2
          generalize nx ns k = b at *
          clear s1 ho hb x1 hll
          go_wp2
          go_roundw
          case rel => exact ⟨k + 1, by omega, by go_num, HS.out.1, HS.out.2⟩
          case measure => simp [intOf]; omega
        · have hk' : k = ns.length := by omega
          subst hk'
          have hr5 : Rd wr (.slice (some ⟨w2.heap.size, 0, none⟩) ns.length ns.length) (iz (back ns)) := ho.rd
          have q5 := HQ.out.below hb
          have HB5 := Lib.hid (HB.out.trans (hb.mono hs2))
          have hs5 := HB5.out.size
          clear ho hb
          go_wp2_with fail
          with_reducible refine (sumOf_any _ cs _ q5 (by rw [HSUM.out]; omega)).mono ?_
          rintro e w' ⟨rfl, rfl⟩
          rw [HSUM.out]
          go_wp2_with fail
          with_reducible refine (implCirclesOf_any _ (iz (back ns)) _ hr5).mono ?_
          rintro e w7 ⟨v7, rfl, o7, b7⟩
          rw [HP.out] at o7
          have q7 := q5.below b7
          have r7 := o7.rd
          have HB7 := Lib.hid (HB5.out.trans (b7.mono hs5))
          clear o7 b7 q5 hr5
          go_wp2_with fail
          with_reducible refine (sameInts_true _ _ _ _ r7 q7).mono ?_
          rintro e w8 ⟨rfl, n8, rfl⟩
          go_wp2
          go_ret
          exact ⟨rfl, below_drewN HB7.out n8⟩
end Go.Proofs.Ytdpijiccolbljaa

/- ToldAfter of the reference. -/
import Derived.Test.YtnpfjpihcdlmhaaSpecV
namespace Go.Proofs.Ytnpfjpihcdlmhaa
open Go.RowKit

theorem toldS_yes {p : Int} {zs : List Int} {k : Nat} (hb : visB p zs = true) (hk : k ≤ zs.length) (h : toldAt p zs k = true) (hno : ∀ j, j < k → toldAt p zs j = false) : toldI p zs = (k : Int) := by
  rw [← toldS_eq]
  unfold toldS
  rw [if_pos hb]
  have : (List.range (zs.length + 1)).find? (fun k => toldAt p zs k) = some k := by
    rw [List.find?_range_eq_some]
    exact ⟨h, by simp; omega, fun j hj => by simp [hno j hj]⟩
  rw [this]
theorem toldS_no {p : Int} {zs : List Int} (hb : visB p zs = true) (hno : ∀ j, j < zs.length + 1 → toldAt p zs j = false) : toldI p zs = -1 := by
  rw [← toldS_eq]
  unfold toldS
  rw [if_pos hb]
  have : (List.range (zs.length + 1)).find? (fun k => toldAt p zs k) = none := by
    rw [List.find?_eq_none]
    intro j hj
    simp [hno j (by simpa using hj)]
  rw [this]

set_option maxHeartbeats 800000 in
set_option maxRecDepth 100000 in
theorem specToldAfter_any (v : Value) (zs : List Int) (p : Int) (w : World) (h : Rd w v zs) (hp : -9223372036854775808 ≤ p ∧ p ≤ 9223372036854775807) :
    Calls Try.prog 38 #[.int .i64 p, v] w fun e w' => e = .returned (.int .i64 (toldI p zs)) ∧ Below w.heap.size w w' := by
  have hR := h
  obtain ⟨a1, c1, rfl, l1, m1, r1⟩ := h
  go_enter Try.func38, Try.ntmps38
  go_wp2_with fail
  refine (specVisitsOk_any _ zs _ _ hR hp).mono ?_
  rintro e w1 ⟨rfl, rfl⟩
  rcases Bool.eq_false_or_eq_true (visB p zs) with hb | hb
  · obtain ⟨h1, h2, h3, h4⟩ := visB_yes hb
    have hst := Lib.hid (fun k hk => stV_len hb k hk)
    have hav := Lib.hid (fun k hk => stV_av hb (k := k) hk)
    have HY := Lib.hid (fun k => @toldS_yes p zs k hb)
    have HNO := Lib.hid (@toldS_no p zs hb)
    rw [hb]
    go_wp2_with fail
    refine (specRoomNew_any _ _).mono ?_
    rintro e w2 ⟨v2, rfl, o2, b2⟩
    obtain ⟨A, c, rfl⟩ := own_slice o2
    have HR := Lib.hid hR
    have s2 := b2.size
    have S2 := Lib.hid s2
    have B2 : Hid (∀ o, Below w1.heap.size w1 (w2.alloc o)) := fun o => b2.alloc (by omega) o
    have O2 : Hid (∀ o, Own (w2.alloc o) w1.heap.size (w2.alloc o).heap.size (.slice A (newDone p).length c) (newDone p)) := fun o => (o2.keep fun g _ hg => Below.heap_alloc _ _ _ hg).wide (Nat.le_refl _) (by simp)
    clear r1 hR o2 b2 s2 l1 m1 hb
    go_wp2
    go_loopw [6] (fun i wr => ∃ k : Nat, k ≤ zs.length + 1 ∧ i = .int .i64 k ∧ Hid (∀ j, j < k → toldAt p zs j = false) ∧ RoomIn w1.heap.size w2.heap.size (stV p zs (min k zs.length)) wr ∧ Below w1.heap.size w1 wr) (fun i _ => zs.length + 1 - (intOf i).toNat)
    case atStart => exact ⟨0, Nat.zero_le _, rfl, fun j hj => absurd hj (by omega), ⟨A, _, c, heap_alloc_new _ _, by rw [Nat.zero_min]; exact O2.out _⟩, B2.out _⟩
    case round =>
      clear B2 O2
      obtain ⟨k, hk, rfl, hno, hroom, hbel⟩ := hrel
      have hsz := hbel.size
      by_cases hle : k ≤ zs.length
      · rw [Nat.min_eq_left hle] at hroom
        have HRM := Lib.hid hroom
        obtain ⟨A, n, c, hblk, hown⟩ := hroom
        have hgl := (Array.getElem?_eq_some_iff.1 hblk).1
        obtain ⟨hrb, hrl⟩ := hst.out k hle
        have hcn := (roomB_cnt hrb).2
        have hl5 := (roomB_yes hrb).2.1
        obtain ⟨cn, HCN⟩ : ∃ cn, Hid ((stV p zs k).2.1 = cn) := ⟨_, rfl⟩
        rw [HCN.out] at hblk hcn
        obtain ⟨⟨e0, e1, e2⟩, f0, f1, f2, -⟩ := blk3 hblk
        have HBEL := Lib.hid hbel
        by_cases hct : cn = p - 1
        · have ha : toldAt p zs k = true := by unfold toldAt; rw [HCN.out]; simpa using hct
          have HF := Lib.hid (HY.out k hle ha hno.out)
          have hce : (cn == p - 1) = true := by simpa using hct
          clear ha hct hblk hown hbel hrb hrl
          go_wp2
          go_ret
          exact ⟨ret_int HF.out.symm, HBEL.out⟩
        · have ha : toldAt p zs k = false := by unfold toldAt; rw [HCN.out]; simpa using hct
          have HF : Hid (∀ j, j < k + 1 → toldAt p zs j = false) := fun j hj => by
            rcases Nat.lt_or_ge j k with h | h
            · exact hno.out j h
            · rw [show j = k by omega]; exact ha
          have hce : (cn == p - 1) = false := by simpa using hct
          clear ha hct
          by_cases hlt : k < zs.length
          · obtain ⟨a2, c2, hq, l2, m2, r2⟩ := HR.out.below hbel
            injection hq with e1' e2' e3'
            subst e1' e3'
            obtain ⟨g1, o1, z, rfl, hg1, x1, HZ⟩ := rd_at r2 k hlt
            have HAV := Lib.hid (fun W hr => specAfterVisit_any (stV p zs k).1 cn (.slice A n c) (stV p zs k).2.2 z W hr (by omega) (by omega))
            clear r2 hrb hrl hl5
            go_wp2_with fail
            go_region_with (go_at_call 42; refine (HAV.out _ (rd_drew hown.rd)).mono ?_; rintro e w3 ⟨⟨A3, n3, c3, rfl, ho3⟩, b3⟩; have n1 := (b3.cell (p := ⟨g1, o1 + k, none⟩) hg1).trans x1; obtain ⟨⟨t0, t1, t2⟩, u0, u1, u2, uz⟩ := blk3 ((b3.block _ hgl).trans hblk); have HB3 := Lib.hid b3; have HO3 := Lib.hid ho3; clear b3 ho3)
            all_goals (
              have hB3 : Below wr.heap.size wr w3 := below_undrew HB3.out
              have hs3 := hB3.size
              have HR3 := Lib.hid (room_in (s := (avSw (stV p zs k).1 cn (stV p zs k).2.2 z, avCnt (stV p zs k).1 cn (stV p zs k).2.2 z, avDone (stV p zs k).1 cn (stV p zs k).2.2 z)) hblk hB3 HO3.out (by omega))
              have HB4 := Lib.hid (below_turned (hbel.trans (hB3.mono (by omega))) HR3.out.2 (by have := S2.out; omega) (by omega))
              clear hB3 hs3 hblk hown hbel x1 n1 t0 t1 t2
              go_wp2
              go_round
              case rel =>
                refine ⟨k + 1, by omega, by go_num, HF, ?_, HB4.out⟩
                rw [Nat.min_eq_left hlt, ← hav.out k hlt, ← HZ.out, HCN.out]
                exact HR3.out.1
              case measure => simp [intOf]; omega)
          · have hk' : k = zs.length := by omega
            subst hk'
            clear hblk hown hbel hrb hrl
            go_wp2
            go_round
            case rel => exact ⟨zs.length + 1, by omega, by go_num, HF, by rw [Nat.min_eq_right (Nat.le_succ _)]; exact HRM.out, HBEL.out⟩
            case measure => simp [intOf]
      · have hk' : k = zs.length + 1 := by omega
        subst hk'
        have HF := Lib.hid (HNO.out hno.out)
        have HBEL := Lib.hid hbel
        clear hroom hbel
        go_wp2
        go_ret
        exact ⟨ret_int HF.out.symm, HBEL.out⟩
  · have e1 : toldI p zs = -1 := by unfold toldI; rw [hb]; rfl
    rw [hb]
    have E1 := Lib.hid e1; clear e1 hb
    go_wp2
    go_ret
    exact ⟨ret_int E1.out.symm, Below.refl _ _⟩
end Go.Proofs.Ytnpfjpihcdlmhaa

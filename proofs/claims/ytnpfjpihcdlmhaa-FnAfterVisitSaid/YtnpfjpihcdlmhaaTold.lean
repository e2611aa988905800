/- Visits one behind the other: the plain words, and ToldAfter and AfterVisits of the program. -/
import Derived.Test.YtnpfjpihcdlmhaaVisit
import Derived.Test.YtnpfjpihcdlmhaaVis
namespace Go.Proofs.Ytnpfjpihcdlmhaa
open Go.RowKit

def stepV (s : Int × Int × List Int) (z : Int) : Int × Int × List Int := (vSw s.1 s.2.2 z.toNat, vCnt s.1 s.2.1 z.toNat, vDone s.1 s.2.2 z.toNat)
/-- The room behind the first k visits. -/
def stV (p : Int) (zs : List Int) (k : Nat) : Int × Int × List Int := (zs.take k).foldl stepV (0, 0, newDone p)

theorem stV_zero (p : Int) (zs : List Int) : stV p zs 0 = (0, 0, newDone p) := rfl
theorem stV_succ (p : Int) (zs : List Int) (k : Nat) (h : k < zs.length) : stV p zs (k + 1) = stepV (stV p zs k) (zs.getD k 0) := by
  unfold stV
  rw [take_snoc zs k h, List.foldl_append]
  rfl

theorem sumI_setV : ∀ (zs : List Int) (p : Nat) (x : Int), p < zs.length → sumI (zs.set p x) = sumI zs - zs.getD p 0 + x
  | [], p, x, h => absurd h (by simp)
  | a :: l, 0, x, _ => by rw [List.set_cons_zero, sumI_cons, sumI_cons]; simp; omega
  | a :: l, p + 1, x, h => by
    have ih := sumI_setV l p x (by simpa using h)
    rw [List.set_cons_succ, sumI_cons, sumI_cons, ih]
    simp only [List.getD_cons_succ]; omega

theorem roomB_visit {sw cnt : Int} {zs : List Int} {p : Nat} (h : roomB sw cnt zs = true) (hp : p < zs.length) : roomB (vSw sw zs p) (vCnt sw cnt p) (vDone sw zs p) = true := by
  obtain ⟨h1, h2, h3, h4, h5, h6, h7, h8⟩ := roomB_yes h
  by_cases h0 : p = 0
  · subst h0
    have e1 : vSw sw zs 0 = 0 := by simp [vSw]
    have e2 : vCnt sw cnt 0 = cnt + sw := by simp [vCnt]
    have e3 : vDone sw zs 0 = zs := by simp [vDone, vHit]
    rw [e1, e2, e3]
    exact roomB_mk h1 h2 h3 (by omega) (by omega) (by omega) h7 (by omega)
  · cases hv : vHit sw zs p
    · have e1 : vSw sw zs p = sw := by unfold vSw; rw [if_neg h0, if_neg (by simp [hv])]
      have e2 : vCnt sw cnt p = cnt := by unfold vCnt; rw [if_neg h0]
      have e3 : vDone sw zs p = zs := by unfold vDone; rw [if_neg (by simp [hv])]
      rw [e1, e2, e3]; exact h
    · have e1 : vSw sw zs p = 1 := by unfold vSw; rw [if_neg h0, if_pos hv]
      have e2 : vCnt sw cnt p = cnt := by unfold vCnt; rw [if_neg h0]
      have e3 : vDone sw zs p = zs.set p 1 := by unfold vDone; rw [if_pos hv]
      simp only [vHit, Bool.and_eq_true, decide_eq_true_eq] at hv
      rw [e1, e2, e3]
      refine roomB_mk (by simpa using h1) (by simpa using h2) (fun z hz => ?_) (by omega) (by omega) h6 ?_ ?_
      · rcases List.mem_or_eq_of_mem_set hz with h | h
        · exact h3 z h
        · omega
      · simp only [List.getD] at h7 ⊢
        rw [List.getElem?_set_ne h0]; exact h7
      · rw [sumI_setV zs p 1 hp, hv.2.2]; omega

theorem stV_len {p : Int} {zs : List Int} (hv : visB p zs = true) : ∀ k, k ≤ zs.length → roomB (stV p zs k).1 (stV p zs k).2.1 (stV p zs k).2.2 = true ∧ (stV p zs k).2.2.length = p.toNat
  | 0, _ => by
    obtain ⟨h1, h2, _, _⟩ := visB_yes hv
    have e : newDone p = List.replicate p.toNat 0 := by unfold newDone; rw [if_pos ⟨h1, h2⟩]
    rw [stV_zero, e]
    refine ⟨roomB_mk (by simp; omega) (by simp; omega) (fun z hz => by have := List.eq_of_mem_replicate hz; omega) (Int.le_refl 0) (show (0:Int) ≤ 1 by omega) (Int.le_refl 0) ?_ ?_, by simp⟩
    · have hM : 0 < p.toNat := by omega
      simp [List.getD, hM]
    · have := sumI_bd 0 (List.replicate p.toNat 0) (fun z hz => by have := List.eq_of_mem_replicate hz; omega)
      show sumI (List.replicate p.toNat 0) = 0 + 0; omega
  | k + 1, hk => by
    obtain ⟨h1, h2⟩ := stV_len hv k (by omega)
    have hz := (visB_yes hv).2.2.2 (zs.getD k 0) (by simp [List.getD, List.getElem?_eq_getElem (show k < zs.length by omega)])
    rw [stV_succ p zs k (by omega)]
    have hp : (zs.getD k 0).toNat < (stV p zs k).2.2.length := by rw [h2]; omega
    exact ⟨roomB_visit h1 hp, by show (vDone _ _ _).length = _; rw [length_vDone, h2]⟩

/-- Whether the counter has counted all others behind k visits. -/
def toldAt (p : Int) (zs : List Int) (k : Nat) : Bool := decide ((stV p zs k).2.1 = p - 1)
/-- The least number of visits, from 1 on, behind which it is told; -1. -/
def toldFrom (p : Int) (zs : List Int) : Int := match (List.range zs.length).find? fun k => toldAt p zs (k + 1) with | some k => (k : Int) + 1 | none => -1
def toldI (p : Int) (zs : List Int) : Int := if visB p zs then (if p = 1 then 0 else toldFrom p zs) else -1

theorem told_yes {p : Int} {zs : List Int} {k : Nat} (hk : k < zs.length) (h : toldAt p zs (k + 1) = true) (hno : ∀ j, j < k → toldAt p zs (j + 1) = false) : toldFrom p zs = (k : Int) + 1 := by
  unfold toldFrom
  have : (List.range zs.length).find? (fun k => toldAt p zs (k + 1)) = some k := by
    rw [List.find?_range_eq_some]
    exact ⟨h, by simpa using hk, fun j hj => by simp [hno j hj]⟩
  rw [this]
theorem told_no {p : Int} {zs : List Int} (hno : ∀ j, j < zs.length → toldAt p zs (j + 1) = false) : toldFrom p zs = -1 := by
  unfold toldFrom
  have : (List.range zs.length).find? (fun k => toldAt p zs (k + 1)) = none := by
    rw [List.find?_eq_none]
    intro j hj
    simp [hno j (by simpa using hj)]
  rw [this]
theorem roomB_cnt {sw cnt : Int} {zs : List Int} (h : roomB sw cnt zs = true) : (0 ≤ sw ∧ sw ≤ 1) ∧ 0 ≤ cnt ∧ cnt ≤ 1000 := by
  obtain ⟨h1, h2, h3, h4, h5, h6, h7, h8⟩ := roomB_yes h
  have := sumI_bd 1 zs h3
  omega

theorem visited_below {B g lo hi : Nat} {a w w' : World} (h : Below B a w) (hv : Visited g lo hi w w') (hg : B ≤ g) (hlo : B ≤ lo) : Below B a w' :=
  h.trans ⟨hv.os, hv.tape, hv.output, Nat.le_of_eq hv.size.symm, fun k hk => hv.block k (by omega) (.inl (by omega))⟩

/-- Block g is a room of the call's own, as s says; its slice lies in a block from lo on and below g. -/
def RoomAt (lo g : Nat) (s : Int × Int × List Int) (w : World) : Prop :=
  ∃ A c, w.heap[g]? = some (.cells #[.int .i64 s.1, .int .i64 s.2.1, .slice A s.2.2.length c] 30 (0, 0)) ∧ Own w lo g (.slice A s.2.2.length c) s.2.2

theorem own_slice {w : World} {lo hi : Nat} {v : Value} {zs : List Int} (h : Own w lo hi v zs) : ∃ A c, v = .slice A zs.length c := by
  obtain ⟨⟨_, h⟩, _⟩ := h
  rcases h with ⟨rfl, h0⟩ | ⟨g, cap, cur, rfl, _⟩
  · exact ⟨none, 0, by rw [h0]⟩
  · exact ⟨_, _, rfl⟩

set_option maxRecDepth 100000 in
theorem implToldAfter_any (v : Value) (zs : List Int) (p : Int) (w : World) (h : Rd w v zs) (hp : -9223372036854775808 ≤ p ∧ p ≤ 9223372036854775807) :
    Calls Try.prog 39 #[.int .i64 p, v] w fun e w' => e = .returned (.int .i64 (toldI p zs)) ∧ Below w.heap.size w w' := by
  have hR := h
  obtain ⟨a1, c1, rfl, l1, m1, r1⟩ := h
  go_enter Try.func39, Try.ntmps39
  go_wp2_with fail
  refine (implVisitsOk_any _ zs _ _ hR).mono ?_
  rintro e w1 ⟨rfl, b1⟩
  rcases Bool.eq_false_or_eq_true (visB p zs) with hb | hb
  · obtain ⟨h1, h2, h3, h4⟩ := visB_yes hb
    have hst := Lib.hid (stV_len hb)
    by_cases hp1 : p = 1
    · subst hp1
      have e1 : toldI 1 zs = 0 := by unfold toldI; rw [hb]; rfl
      have E1 := Lib.hid e1; clear e1 hst h3 h4
      rw [hb]
      go_wp2_with fail
      refine (implRoomNew_any _ _).mono ?_
      rintro e w2 ⟨v2, rfl, o2, b2⟩
      obtain ⟨A, c, rfl⟩ := own_slice o2
      have B2 : Hid (∀ o, Below w.heap.size w (w2.alloc o)) := fun o => (b1.trans (b2.mono b1.size)).alloc (by have := b1.size; have := b2.size; omega) o
      clear o2 b1 b2 r1
      go_wp2
      go_ret
      exact ⟨ret_int E1.out.symm, B2.out _⟩
    · have hpq : (p == 1) = false := by simpa using hp1
      have ht : toldI p zs = toldFrom p zs := by unfold toldI; rw [hb, if_neg hp1]; rfl
      have HT := Lib.hid ht; clear ht
      rw [hb]
      go_wp2_with fail
      refine (implRoomNew_any _ _).mono ?_
      rintro e w2 ⟨v2, rfl, o2, b2⟩
      obtain ⟨A, c, rfl⟩ := own_slice o2
      have HR := Lib.hid hR
      have s1 := b1.size
      have s2 := b2.size
      have S12 := Lib.hid (And.intro s1 s2)
      have B2 : Hid (∀ o, Below w.heap.size w (w2.alloc o)) := fun o => (b1.trans (b2.mono s1)).alloc (by omega) o
      have O2 : Hid (∀ o, Own (w2.alloc o) w1.heap.size w2.heap.size (.slice A (newDone p).length c) (newDone p)) := fun o => o2.keep fun g _ hg => Below.heap_alloc _ _ _ hg
      clear r1 hR o2 b1 b2 s1 s2 l1 m1
      go_wp2
      go_loopw [18] (fun i wr => ∃ k : Nat, k ≤ zs.length ∧ i = .int .i64 k ∧ Hid (∀ j, j < k → toldAt p zs (j + 1) = false) ∧ RoomAt w1.heap.size w2.heap.size (stV p zs k) wr ∧ Below w.heap.size w wr) (fun i _ => zs.length - (intOf i).toNat)
      case atStart => exact ⟨0, Nat.zero_le _, rfl, fun j hj => absurd hj (by omega), ⟨A, c, heap_alloc_new _ _, O2.out _⟩, B2.out _⟩
      case round =>
        clear B2 O2
        obtain ⟨k, hk, rfl, hno, ⟨A, c, hblk, hown⟩, hbel⟩ := hrel
        by_cases hlt : k < zs.length
        · obtain ⟨a2, c2, hq, l2, m2, r2⟩ := HR.out.below hbel
          injection hq with e1 e2 e3
          subst e1 e3
          obtain ⟨g1, o1, z, rfl, hg1, x1, HZ⟩ := rd_at r2 k hlt
          have hz := h4 z (by rw [HZ.out]; simp [List.getD, List.getElem?_eq_getElem hlt])
          obtain ⟨P, rfl⟩ := Int.eq_ofNat_of_zero_le hz.1
          obtain ⟨hrb, hrl⟩ := hst.out k hk
          obtain ⟨hsw, hcn⟩ := roomB_cnt hrb
          clear r2
          go_wp2_with fail
          refine (visit_any _ _ _ _ _ _ _ _ P wr hblk hown (.inr (Nat.le_refl _)) (by omega) hsw hcn).mono ?_
          rintro e w3 ⟨rfl, hblk3, hown3, hv3⟩
          have hr3 : RoomAt w1.heap.size w2.heap.size (stV p zs (k + 1)) w3 := by
            rw [stV_succ p zs k hlt, ← HZ.out]
            refine ⟨A, c, ?_, ?_⟩
            · show w3.heap[w2.heap.size]? = some (.cells #[.int .i64 (vSw (stV p zs k).1 (stV p zs k).2.2 P), .int .i64 (vCnt (stV p zs k).1 (stV p zs k).2.1 P), .slice A (vDone (stV p zs k).1 (stV p zs k).2.2 P).length c] 30 (0, 0))
              rw [length_vDone]; exact hblk3
            · show Own w3 w1.heap.size w2.heap.size (.slice A (vDone (stV p zs k).1 (stV p zs k).2.2 P).length c) (vDone (stV p zs k).1 (stV p zs k).2.2 P)
              rw [length_vDone]; exact hown3
          have H3 := Lib.hid hr3
          obtain ⟨A3, c3, hblk4, _⟩ := hr3
          have hm := hst.out (k + 1) hlt
          have hcn4 := (roomB_cnt hm.1).2
          obtain ⟨cn, HCN⟩ : ∃ cn, Hid ((stV p zs (k + 1)).2.1 = cn) := ⟨_, rfl⟩
          rw [HCN.out] at hblk4 hcn4
          obtain ⟨⟨k0, k1, k2⟩, f0, f1, f2, kz⟩ := blk3 hblk4
          have B3 := Lib.hid (visited_below hbel hv3 (Nat.le_trans S12.out.1 S12.out.2) S12.out.1)
          clear hblk hown hbel hblk3 hown3 hv3 x1 hblk4 hm hrb hrl hsw hcn
          by_cases hct : cn = p - 1
          · have ha : toldAt p zs (k + 1) = true := by unfold toldAt; rw [HCN.out]; simpa using hct
            have HF := Lib.hid (told_yes hlt ha hno.out)
            have hce : (cn == p - 1) = true := by simpa using hct
            clear ha hct
            go_wp2
            go_ret
            exact ⟨ret_int (by rw [HT.out, HF.out]), B3.out⟩
          · have ha : toldAt p zs (k + 1) = false := by unfold toldAt; rw [HCN.out]; simpa using hct
            have HF : Hid (∀ j, j < k + 1 → toldAt p zs (j + 1) = false) := fun j hj => by
              rcases Nat.lt_or_ge j k with h | h
              · exact hno.out j h
              · rw [show j = k by omega]; exact ha
            have hce : (cn == p - 1) = false := by simpa using hct
            clear ha hct
            go_wp2
            go_round
            case rel => exact ⟨k + 1, by omega, by go_num, HF, H3.out, B3.out⟩
            case measure => simp [intOf]; omega
        · have hk' : k = zs.length := by omega
          subst hk'
          have HF := Lib.hid (told_no hno.out)
          have HB := Lib.hid hbel
          clear hblk hown hbel
          go_wp2
          go_ret
          exact ⟨ret_int (by rw [HT.out, HF.out]), HB.out⟩
  · have e1 : toldI p zs = -1 := by unfold toldI; rw [hb]; rfl
    rw [hb]
    have E1 := Lib.hid e1; clear e1 hb
    go_wp2
    go_ret
    exact ⟨ret_int E1.out.symm, b1⟩
end Go.Proofs.Ytnpfjpihcdlmhaa

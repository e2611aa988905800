/- One visit to a room. -/
import Derived.Test.YtnpfjpihcdlmhaaRoomOk
namespace Go.Proofs.Ytnpfjpihcdlmhaa
open Go.RowKit

def vHit (sw : Int) (zs : List Int) (p : Nat) : Bool := decide (p ≠ 0) && (decide (sw = 0) && decide (zs.getD p 0 = 0))
def vSw (sw : Int) (zs : List Int) (p : Nat) : Int := if p = 0 then 0 else if vHit sw zs p then 1 else sw
def vCnt (sw cnt : Int) (p : Nat) : Int := if p = 0 then cnt + sw else cnt
def vDone (sw : Int) (zs : List Int) (p : Nat) : List Int := if vHit sw zs p then zs.set p 1 else zs

theorem length_vDone (sw : Int) (zs : List Int) (p : Nat) : (vDone sw zs p).length = zs.length := by
  unfold vDone; split <;> simp

/-- Block g, and the blocks in [lo, hi), may have turned; no block has come. -/
structure Visited (g lo hi : Nat) (w w' : World) : Prop where
  os : w'.os = w.os
  tape : w'.tape = w.tape
  output : w'.output = w.output
  size : w'.heap.size = w.heap.size
  block : ∀ k, k ≠ g → (k < lo ∨ hi ≤ k) → w'.heap[k]? = w.heap[k]?

set_option maxRecDepth 100000 in
theorem visit_any (g lo hi : Nat) (sw cnt : Int) (A : Option Addr) (c : Nat) (zs : List Int) (p : Nat) (w : World)
    (hb : w.heap[g]? = some (.cells #[.int .i64 sw, .int .i64 cnt, .slice A zs.length c] 30 (0, 0))) (ho : Own w lo hi (.slice A zs.length c) zs) (hd : g < lo ∨ hi ≤ g)
    (hp : p < zs.length) (hsw : 0 ≤ sw ∧ sw ≤ 1) (hcn : 0 ≤ cnt ∧ cnt ≤ 1000) :
    Calls Try.prog 62 #[.pointer (some ⟨g, 0, none⟩), .int .i64 p] w fun e w' => e = .returned (.tuple #[]) ∧
      w'.heap[g]? = some (.cells #[.int .i64 (vSw sw zs p), .int .i64 (vCnt sw cnt p), .slice A zs.length c] 30 (0, 0)) ∧ Own w' lo hi (.slice A zs.length c) (vDone sw zs p) ∧ Visited g lo hi w w' := by
  obtain ⟨⟨k0, k1, k2⟩, f0, f1, f2, kz⟩ := blk3 hb
  have HBK := Lib.hid hb
  by_cases h0 : p = 0
  · have e1 : vSw sw zs p = 0 := by simp [vSw, h0]
    have e2 : vCnt sw cnt p = cnt + sw := by simp [vCnt, h0]
    have e3 : vDone sw zs p = zs := by simp [vDone, vHit, h0]
    have E1 := Lib.hid e1; have E2 := Lib.hid e2; have E3 := Lib.hid e3
    have hp0 : ((p : Int) == 0) = true := by simp [h0]
    have HQ : Hid (∀ n, (((w.setCell ⟨g, 1, none⟩ (.int .i64 (cnt + sw))).setCell ⟨g, 0, none⟩ (.int .i64 0)).drewN n).heap[g]? = some (.cells #[.int .i64 0, .int .i64 (cnt + sw), .slice A zs.length c] 30 (0, 0)) ∧
        Own (((w.setCell ⟨g, 1, none⟩ (.int .i64 (cnt + sw))).setCell ⟨g, 0, none⟩ (.int .i64 0)).drewN n) lo hi (.slice A zs.length c) zs ∧ Visited g lo hi w (((w.setCell ⟨g, 1, none⟩ (.int .i64 (cnt + sw))).setCell ⟨g, 0, none⟩ (.int .i64 0)).drewN n)) := by
      intro n
      have q1 := heap_setCell_same w g 1 _ _ (.int .i64 (cnt + sw)) hb
      have q2 := heap_setCell_same _ g 0 _ _ (.int .i64 0) q1
      have qq : ∀ k, k ≠ g → ((w.setCell ⟨g, 1, none⟩ (.int .i64 (cnt + sw))).setCell ⟨g, 0, none⟩ (.int .i64 0)).heap[k]? = w.heap[k]? := fun k hk => by
        rw [heap_setCell_other _ ⟨g, 0, none⟩ k _ hk, heap_setCell_other _ ⟨g, 1, none⟩ k _ hk]
      exact ⟨by simpa using q2, ho.keep (fun k h1 h2 => qq k (by omega)), ⟨rfl, rfl, rfl, by simp, fun k h1 _ => qq k h1⟩⟩
    clear e1 e2 e3 h0 hb ho
    go_enter Try.func62, Try.ntmps62
    go_wp2
    go_region
    all_goals go_wp2
    all_goals go_end0
    all_goals exact ⟨rfl, by rw [E1.out, E2.out]; exact (HQ.out 1).1, by rw [E3.out]; exact (HQ.out 1).2.1, (HQ.out 1).2.2⟩
  · have hp0 : ((p : Int) == 0) = false := by simp; omega
    obtain ⟨⟨hl, ho'⟩, hi'⟩ := ho
    rcases ho' with ⟨e, e0⟩ | ⟨b, cap, cur, e, hlo, hh, hn, hm, hsz, ht⟩
    · exfalso; omega
    · injection e with e1 e2 e3
      subst e1 e3
      have hown : w.ownsRow lo 3 1 (.slice (some ⟨b, 0, none⟩) zs.length c) zs.length (zs.map (Value.int .i64)) := ⟨hl, .inr ⟨b, c, cur, rfl, hlo, hh, hn, hm, hsz, ht⟩⟩
      have hbh := hi' b rfl
      have hcell := hown.cellAt p (by omega)
      rw [List.getElem?_map, List.getElem?_eq_getElem hp] at hcell
      have hfr := hown.frozenAt p
      obtain ⟨z, hz⟩ : ∃ z, z = zs[p] := ⟨_, rfl⟩
      rw [← hz] at hcell
      simp only [Option.map_some] at hcell
      have hzd : zs.getD p 0 = z := by simp [List.getD, List.getElem?_eq_getElem hp, hz]
      have hne : ¬ b = g := by omega
      unfold maxLen at hm
      have HI := Lib.hid hi'
      clear ht hsz hh e2 hl hi'
      by_cases hs0 : sw = 0
      · subst hs0
        by_cases hz0 : z = 0
        · subst hz0
          have hv : vHit 0 zs p = true := by unfold vHit; rw [hzd]; simp [h0]
          have E1 : Hid (vSw 0 zs p = 1) := by unfold Hid vSw; rw [if_neg h0, if_pos hv]
          have E2 : Hid (vCnt 0 cnt p = cnt) := by unfold Hid vCnt; rw [if_neg h0]
          have E3 : Hid (vDone 0 zs p = zs.set p 1) := by unfold Hid vDone; rw [if_pos hv]
          have HQ : Hid (((w.setCell ⟨g, 0, none⟩ (.int .i64 1)).setCell ⟨b, p, none⟩ (.int .i64 1)).heap[g]? = some (.cells #[.int .i64 1, .int .i64 cnt, .slice (some ⟨b, 0, none⟩) zs.length c] 30 (0, 0)) ∧
              Own ((w.setCell ⟨g, 0, none⟩ (.int .i64 1)).setCell ⟨b, p, none⟩ (.int .i64 1)) lo hi (.slice (some ⟨b, 0, none⟩) zs.length c) (zs.set p 1) ∧ Visited g lo hi w ((w.setCell ⟨g, 0, none⟩ (.int .i64 1)).setCell ⟨b, p, none⟩ (.int .i64 1))) := by
            have q1 := heap_setCell_same w g 0 _ _ (.int .i64 1) hb
            have o1 : Own (w.setCell ⟨g, 0, none⟩ (.int .i64 1)) lo hi (.slice (some ⟨b, 0, none⟩) zs.length c) zs := (show Own w lo hi (.slice (some ⟨b, 0, none⟩) zs.length c) zs from ⟨hown, HI.out⟩).keep (fun k h1 h2 => heap_setCell_other w ⟨g, 0, none⟩ k _ (by show k ≠ g; omega))
            have o2 := o1.1.stored p (.int .i64 1)
            refine ⟨(heap_setCell_other _ ⟨b, p, none⟩ g _ (by show g ≠ b; omega)).trans (by simpa using q1), ⟨?_, HI.out⟩, ⟨rfl, rfl, rfl, by simp, fun k h1 h2 => ?_⟩⟩
            · rw [List.length_set, List.map_set]; exact o2.1
            · rw [heap_setCell_other _ ⟨b, p, none⟩ k _ (by show k ≠ b; omega), heap_setCell_other w ⟨g, 0, none⟩ k _ h1]
          clear hv hzd hz hb hown
          go_enter Try.func62, Try.ntmps62
          go_wp2
          go_end0
          exact ⟨rfl, by rw [E1.out, E2.out]; exact HQ.out.1, by rw [E3.out]; exact HQ.out.2.1, HQ.out.2.2⟩
        · have hv : vHit 0 zs p = false := by unfold vHit; rw [hzd]; simp [hz0]
          have hzq : (z == 0) = false := by simpa using hz0
          have E1 : Hid (vSw 0 zs p = 0) := by unfold Hid vSw; rw [if_neg h0, if_neg (by simp [hv])]
          have E2 : Hid (vCnt 0 cnt p = cnt) := by unfold Hid vCnt; rw [if_neg h0]
          have E3 : Hid (vDone 0 zs p = zs) := by unfold Hid vDone; rw [if_neg (by simp [hv])]
          have HO := Lib.hid hown
          clear hv hzd hz hz0 hb hown
          go_enter Try.func62, Try.ntmps62
          go_wp2
          go_end0
          exact ⟨rfl, by rw [E1.out, E2.out]; exact HBK.out, by rw [E3.out]; exact ⟨HO.out, HI.out⟩, ⟨rfl, rfl, rfl, rfl, fun _ _ _ => rfl⟩⟩
      · have hv : vHit sw zs p = false := by simp [vHit, hs0]
        have hsq : (sw == 0) = false := by simpa using hs0
        have E1 : Hid (vSw sw zs p = sw) := by unfold Hid vSw; rw [if_neg h0, if_neg (by simp [hv])]
        have E2 : Hid (vCnt sw cnt p = cnt) := by unfold Hid vCnt; rw [if_neg h0]
        have E3 : Hid (vDone sw zs p = zs) := by unfold Hid vDone; rw [if_neg (by simp [hv])]
        have HO := Lib.hid hown
        clear hv hzd hz hs0 hb hown
        go_enter Try.func62, Try.ntmps62
        go_wp2
        go_end0
        exact ⟨rfl, by rw [E1.out, E2.out]; exact HBK.out, by rw [E3.out]; exact ⟨HO.out, HI.out⟩, ⟨rfl, rfl, rfl, rfl, fun _ _ _ => rfl⟩⟩
end Go.Proofs.Ytnpfjpihcdlmhaa

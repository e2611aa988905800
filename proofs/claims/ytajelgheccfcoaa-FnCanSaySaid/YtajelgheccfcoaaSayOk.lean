/- Whether sayings are right, at the implementation. -/
import Derived.Test.YtajelgheccfcoaaSys
namespace Go.Proofs.Ytajelgheccfcoaa
open Go.RowKit

def okB (p : Int) (q : Sy) : Bool := inB 0 (p - 1) q.1 && textB p q.2
/-- Whether there are at most six sayings of so many people. -/
def sayB (p : Int) (ps : List Sy) : Bool := inB 1 5 p && (decide (ps.length ≤ 6) && ps.all (okB p))

set_option maxRecDepth 100000 in
theorem say1_any (p x : Int) (l : List UInt8) (b : Nat) (w : World) (hp : 1 ≤ p ∧ p ≤ 5) (hl : l.length < 4611686018427387904) (h : w.cell? ⟨b, 0, none⟩ = some (.int .i64 p)) :
    Calls Try.prog 47 #[.agg #[.int .i64 x, .string (tx l)], .pointer (some ⟨b, 0, none⟩)] w fun e w' => e = .returned (.bool (!okB p (x, l))) ∧ Below w.heap.size w w' := by
  have hbW : Below w.heap.size w (w.alloc (.cells #[.int .i64 x, .string (tx l)] 45)) := (Below.refl _ _).alloc (Nat.le_refl _) _
  have n1 := block_lt_of_cell h
  have HB := Lib.hid hbW
  have HT := Lib.hid (fun W => implTextOk_any p l W hl)
  have HO : Hid (okB p (x, l) = (inB 0 (p - 1) x && textB p l)) := rfl
  clear hbW
  generalize tx l = S at *
  go_enter Try.func47, Try.ntmps47
  go_wp2_with fail
  with_reducible refine (in_any _ _ _ _).mono ?_
  rintro e w' ⟨rfl, rfl⟩
  generalize inB 0 (p - 1) x = b0 at *
  cases b0 with
  | false =>
    go_wp2
    go_ret
    exact ⟨ret_bool (by rw [HO.out]; rfl), HB.out⟩
  | true =>
    go_wp2_with fail
    with_reducible refine (HT.out _).mono ?_
    rintro e w2 ⟨rfl, ht⟩
    have HB2 := Lib.hid (HB.out.trans (ht.below0.mono HB.out.size))
    clear ht
    generalize textB p l = b1 at *
    go_wp2
    go_ret
    exact ⟨ret_bool (by rw [HO.out]; cases b1 <;> rfl), HB2.out⟩

set_option maxRecDepth 100000 in
theorem IndexFunc_say (p : Int) (v : Value) (ps : List Sy) (b : Nat) (w : World) (hp : 1 ≤ p ∧ p ≤ 5) (hl : Brief ps) (h : RdS w v ps) (hb : w.cell? ⟨b, 0, none⟩ = some (.int .i64 p)) :
    Calls Try.prog 61 #[v, .func (.func 47) #[] #[.pointer (some ⟨b, 0, none⟩)]] w fun e w' => (∃ k : Int, e = .returned (.int .i64 k) ∧ (decide (0 ≤ k) = !(ps.all (okB p)))) ∧ Below w.heap.size w w' := by
  have HR := Lib.hid h
  have HP := Lib.hid (fun x l w => say1_any p x l b w hp)
  have HL := Lib.hid hl
  have n1 := block_lt_of_cell hb
  have HC := Lib.hid hb
  obtain ⟨a1, cp, rfl, l1, m1, r1⟩ := h
  clear r1 hb hl
  go_enter Try.func61, Try.ntmps61
  go_wp2
  go_loopw [8] (fun i wr => ∃ k : Nat, k ≤ ps.length ∧ i = .int .i64 k ∧ Hid ((ps.take k).all (okB p) = true) ∧ Below w.heap.size w wr) (fun i _ => ps.length - (intOf i).toNat)
  case atStart => exact ⟨0, Nat.zero_le _, rfl, rfl, Below.refl _ _⟩
  case round =>
    obtain ⟨k, hk, rfl, hno, hbr⟩ := hrel
    by_cases hlt : k < ps.length
    · obtain ⟨a2, cp2, e9, l2, m2, r2⟩ := HR.out.below hbr (Nat.le_refl _)
      injection e9 with e1 e2 e3
      subst e1 e3
      obtain ⟨g1, o1, x, l, rfl, hg1, ⟨q0, q1⟩, Z1⟩ := rdS_at r2 k hlt
      clear r2
      have HA := Lib.hid (HP.out x l wr (HL.out _ (memS hlt Z1.out)) ((hbr.cell (p := ⟨b, 0, none⟩) n1).trans HC.out))
      have HOK : Hid (okB p (ps.getD k noSy) = okB p (x, l)) := by unfold Hid; rw [← Z1.out]
      generalize tx l = S at *
      go_wp2_with fail
      with_reducible refine HA.out.mono ?_
      rintro e w' ⟨rfl, b2⟩
      have HB := Lib.hid (hbr.trans (b2.mono hbr.size))
      clear b2 hbr q0 q1 HA
      generalize okB p (x, l) = b0 at *
      cases b0 with
      | false =>
        have HF : Hid (ps.all (okB p) = false) := by
          unfold Hid
          rw [List.all_eq_false]
          exact ⟨_, memS hlt rfl, by rw [HOK.out]; simp⟩
        go_wp2
        go_ret
        exact ⟨⟨k, rfl, by rw [HF.out]; simp⟩, HB.out⟩
      | true =>
        have HS : Hid ((ps.take (k + 1)).all (okB p) = true) := by
          unfold Hid
          rw [takeS_snoc ps k hlt, List.all_append, hno.out]
          rw [List.all_cons, HOK.out]; rfl
        go_wp2
        go_round
        case rel => exact ⟨k + 1, by omega, by go_num, HS, HB.out⟩
        case measure => simp [intOf]; omega
    · have hk' : k = ps.length := by omega
      subst hk'
      have HB := Lib.hid hbr
      have HA : Hid (ps.all (okB p) = true) := by unfold Hid; rw [← hno.out, List.take_length]
      clear hbr
      go_wp2
      go_ret
      exact ⟨⟨-1, rfl, by rw [HA.out]; rfl⟩, HB.out⟩

set_option maxRecDepth 100000 in
theorem ContainsFunc_say (p : Int) (v : Value) (ps : List Sy) (b : Nat) (w : World) (hp : 1 ≤ p ∧ p ≤ 5) (hl : Brief ps) (h : RdS w v ps) (hb : w.cell? ⟨b, 0, none⟩ = some (.int .i64 p)) :
    Calls Try.prog 50 #[v, .func (.func 47) #[] #[.pointer (some ⟨b, 0, none⟩)]] w fun e w' => e = .returned (.bool (!(ps.all (okB p)))) ∧ Below w.heap.size w w' := by
  have H := Lib.hid (IndexFunc_say p v ps b w hp hl h hb)
  clear hl h hb
  go_enter Try.func50, Try.ntmps50
  go_wp2_with fail
  with_reducible refine H.out.mono ?_
  rintro e w2 ⟨⟨k, rfl, hk⟩, b2⟩
  have HK := Lib.hid hk
  have HB := Lib.hid b2
  clear hk b2
  go_wp2
  go_ret
  exact ⟨ret_bool HK.out, HB.out⟩

set_option maxHeartbeats 1600000 in
set_option maxRecDepth 100000 in
theorem implSayingsOk_any (p : Int) (v : Value) (ps : List Sy) (w : World) (hl : Brief ps) (h : RdS w v ps) :
    Calls Try.prog 28 #[.int .i64 p, v] w fun e w' => e = .returned (.bool (sayB p ps)) ∧ Below w.heap.size w w' := by
  obtain ⟨W, hW⟩ : ∃ W : World, W = w.alloc (.cells #[.int .i64 p] 3) := ⟨_, rfl⟩
  have hbW : Below w.heap.size w W := by rw [hW]; exact (Below.refl _ _).alloc (Nat.le_refl _) _
  have q1 : W.cell? ⟨w.heap.size, 0, none⟩ = some (.int .i64 p) := by rw [hW, World.cell?_alloc_at _ _ _ _ rfl]; rfl
  have hsW : W.heap.size = w.heap.size + 1 := by rw [hW]; simp
  have HR := Lib.hid (h.below hbW (Nat.le_refl _))
  have HW := Lib.hid hW; have HB := Lib.hid hbW
  have HO : Hid (sayB p ps = (inB 1 5 p && (decide (ps.length ≤ 6) && ps.all (okB p)))) := rfl
  have HC := Lib.hid (fun hp => ContainsFunc_say p v ps w.heap.size W hp hl HR.out q1)
  obtain ⟨a, cp, rfl, l1, m1, -⟩ := h
  clear hW hbW hl
  have HIN := Lib.hid (inB_in (lo := 1) (hi := 5) (z := p))
  go_enter Try.func28, Try.ntmps28
  go_wp2_with fail
  rw [← HW.out]
  with_reducible refine (in_any _ _ _ _).mono ?_
  rintro e w' ⟨rfl, rfl⟩
  generalize inB 1 5 p = b0 at *
  cases b0 with
  | false =>
    go_wp2
    go_ret
    exact ⟨ret_bool (by rw [HO.out]; rfl), HB.out⟩
  | true =>
    have HC2 := Lib.hid (HC.out (HIN.out rfl))
    by_cases h6 : ps.length ≤ 6
    · have HO2 : Hid (sayB p ps = ps.all (okB p)) := by unfold Hid; rw [HO.out, decide_eq_true h6]; rfl
      have h6' : (ps.length : Int) ≤ 6 := by omega
      go_wp2_with fail
      with_reducible refine HC2.out.mono ?_
      rintro e w2 ⟨rfl, b2⟩
      have HB2 := Lib.hid (HB.out.trans (b2.mono HB.out.size))
      clear b2
      rw [← HO2.out]
      go_wp2
      go_ret
      exact ⟨ret_bool (by simp), HB2.out⟩
    · have HO2 : Hid (sayB p ps = false) := by unfold Hid; rw [HO.out, decide_eq_false h6]; rfl
      have h6' : ¬ (ps.length : Int) ≤ 6 := by omega
      go_wp2
      go_ret
      exact ⟨ret_bool HO2.out.symm, HB.out⟩
end Go.Proofs.Ytajelgheccfcoaa

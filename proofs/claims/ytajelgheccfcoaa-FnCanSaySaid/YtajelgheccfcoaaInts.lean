/- The walks of the small helpers on slices of numbers: copy, compare, mark, look for marks. -/
import Derived.Test.YtajelgheccfcoaaProg
import Derived.Test.YtajelgheccfcoaaBase
namespace Go.Proofs.Ytajelgheccfcoaa
open Go.RowKit

theorem infoInt : (Try.prog.info? 3).map (fun i => (i.zero, i.size, i.bytes)) = some (some (.int .i64 0), 1, 8) := by kernel_rfl

set_option maxRecDepth 100000 in
theorem eqIntS_true (v1 v2 : Value) (zs : List Int) (w : World) (h1 : Rd w v1 zs) (h2 : Rd w v2 zs) :
    Calls Try.prog 21 #[v1, v2] w fun e w' => e = .returned (.bool true) ∧ ∃ n, w' = w.drewN n := by
  obtain ⟨a1, c1, rfl, l1, m1, r1⟩ := h1
  obtain ⟨a2, c2, rfl, l2, m2, r2⟩ := h2
  go_enter Try.func21, Try.ntmps21
  go_wp2
  go_loopw [5] (fun i wr => ∃ k : Nat, k ≤ zs.length ∧ i = .int .i64 k ∧ ∃ n, wr = w.drewN n) (fun i _ => zs.length - (intOf i).toNat)
  case atStart => exact ⟨0, Nat.zero_le _, rfl, 0, rfl⟩
  case round =>
    obtain ⟨k, hk, rfl, n, rfl⟩ := hrel
    by_cases hlt : k < zs.length
    · obtain ⟨g1, o1, rfl, -, x1⟩ := r1 (by omega)
      obtain ⟨g2, o2, rfl, -, x2⟩ := r2 (by omega)
      have y1 := x1 k hlt
      have y2 := x2 k hlt
      clear x1 x2 r1 r2
      go_wp2
      go_quiet (fail)
      go_wp2
      go_roundw
      case rel => exact ⟨k + 1, by omega, by go_num, _, rfl⟩
      case measure => simp [intOf]; omega
    · go_wp2
      go_ret
      exact ⟨rfl, n, rfl⟩

set_option maxRecDepth 100000 in
theorem sameInts_true (v1 v2 : Value) (zs : List Int) (w : World) (h1 : Rd w v1 zs) (h2 : Rd w v2 zs) :
    Calls Try.prog 32 #[v1, v2] w fun e w' => e = .returned (.bool true) ∧ ∃ n, w' = w.drewN n := by
  obtain ⟨a1, c1, rfl, l1, m1, r1⟩ := h1
  obtain ⟨a2, c2, rfl, l2, m2, r2⟩ := h2
  go_enter Try.func32, Try.ntmps32
  go_wp2
  go_loopw [5] (fun i wr => ∃ k : Nat, k ≤ zs.length ∧ i = .int .i64 k ∧ ∃ n, wr = w.drewN n) (fun i _ => zs.length - (intOf i).toNat)
  case atStart => exact ⟨0, Nat.zero_le _, rfl, 0, rfl⟩
  case round =>
    obtain ⟨k, hk, rfl, n, rfl⟩ := hrel
    by_cases hlt : k < zs.length
    · obtain ⟨g1, o1, rfl, -, x1⟩ := r1 (by omega)
      obtain ⟨g2, o2, rfl, -, x2⟩ := r2 (by omega)
      have y1 := x1 k hlt
      have y2 := x2 k hlt
      clear x1 x2 r1 r2
      go_wp2
      go_quiet (fail)
      go_wp2
      go_roundw
      case rel => exact ⟨k + 1, by omega, by go_num, _, rfl⟩
      case measure => simp [intOf]; omega
    · go_wp2
      go_ret
      exact ⟨rfl, n, rfl⟩

/-- The numbers k, k + 1, .., n of them. -/
def upFrom (k : Int) (n : Nat) : List Int := (List.range n).map fun (j : Nat) => k + (j : Int)
theorem length_upFrom (k : Int) (n : Nat) : (upFrom k n).length = n := by simp [upFrom]
theorem getD_upFrom (k : Int) (n j : Nat) (h : j < n) : (upFrom k n).getD j 0 = k + (j : Int) := by
  simp [upFrom, List.getD, h]

theorem upd_step (zs : List Int) (k : Int) (j : Nat) (h : j < zs.length) : (upFrom k j ++ zs.drop j).set j (k + (j : Int)) = upFrom k (j + 1) ++ zs.drop (j + 1) := by
  have e : upFrom k (j + 1) = upFrom k j ++ [k + (j : Int)] := by simp [upFrom, List.range_succ]
  rw [e, List.set_append_right _ _ (by rw [length_upFrom]; exact Nat.le_refl _), length_upFrom, Nat.sub_self, List.drop_eq_getElem_cons h]
  simp only [List.set_cons_zero, List.append_assoc, List.singleton_append]

set_option maxRecDepth 100000 in
theorem markIntS_any (lo hi : Nat) (v : Value) (zs : List Int) (k0 : Int) (w : World) (h : Own w lo hi v zs) (h0 : 0 ≤ k0) (hb : k0 + zs.length ≤ 4611686018427387904) :
    Calls Try.prog 23 #[v, .int .i64 k0] w fun e w' => e = .returned (.int .i64 (k0 + zs.length)) ∧ Own w' lo hi v (upFrom k0 zs.length) ∧ Turned lo hi w w' ∧ w'.heap.size = w.heap.size := by
  obtain ⟨⟨hl, h⟩, hi'⟩ := h
  rcases h with ⟨rfl, hz⟩ | ⟨g, cap, cur, rfl, hg, hh', hn, hm, hsz, ht⟩
  · have hz' := List.length_eq_zero_iff.1 hz
    subst hz'
    go_enter Try.func23, Try.ntmps23
    go_wp2
    refine wp_loop_rounds 1 ?_
    rw [rounds_succ]
    go_wp2
    go_ret
    exact ⟨by simp, ⟨by simpa [upFrom] using World.ownsRow_nil w lo 3 1, fun k hk => by simp [Value.ownBlock] at hk⟩, ⟨rfl, rfl, rfl, Nat.le_refl _, fun _ _ _ => rfl⟩, rfl⟩
  · have hown : w.ownsRow lo 3 1 (.slice (some ⟨g, 0, none⟩) zs.length cap) zs.length (zs.map (Value.int .i64)) := ⟨hl, .inr ⟨g, cap, cur, rfl, hg, hh', hn, hm, hsz, ht⟩⟩
    have hgh : g < hi := hi' g rfl
    clear hh' ht hsz hl
    unfold maxLen at hm
    go_enter Try.func23, Try.ntmps23
    go_wp2
    go_loopw [1, 5] (fun q i wr => ∃ k : Nat, k ≤ zs.length ∧ i = .int .i64 k ∧ q = .int .i64 (k0 + k) ∧ wr.ownsRow lo 3 1 (.slice (some ⟨g, 0, none⟩) zs.length cap) zs.length ((upFrom k0 k ++ zs.drop k).map (Value.int .i64)) ∧ w.grownBy wr (some g) ∧ wr.heap.size = w.heap.size)
      (fun _ i _ => zs.length - (intOf i).toNat)
    case atStart => exact ⟨0, Nat.zero_le _, rfl, by simp, by simpa [upFrom] using hown, World.grownBy.refl w _, rfl⟩
    case round =>
      obtain ⟨k, hk, rfl, rfl, hr, hgr, hs⟩ := hrel
      by_cases hlt : k < zs.length
      · have hfr := hr.frozenAt k
        have hll : ((upFrom k0 k ++ zs.drop k).map (Value.int .i64)).length = zs.length := by simp [length_upFrom]; omega
        have hc := hr.cellAt k (by omega)
        rw [List.getElem?_eq_getElem (by omega)] at hc
        obtain ⟨u, hu⟩ : ∃ u, u = ((upFrom k0 k ++ zs.drop k).map (Value.int .i64))[k]'(by omega) := ⟨_, rfl⟩
        rw [← hu] at hc
        clear hu hll
        have hst := hr.stored k (.int .i64 (k0 + k))
        have HST := Lib.hid hst
        have HS := Lib.hid hs
        clear hst hs
        go_wp2
        go_roundw
        case rel =>
          refine ⟨k + 1, by omega, by go_num, by go_num, ?_, World.grownBy.trans hgr HST.out.2, by rw [World.size_setCell]; exact HS.out⟩
          have := HST.out.1
          rw [← upd_step zs k0 k hlt, List.map_set]
          exact this
        case measure => simp [intOf]; omega
      · have hk' : k = zs.length := by omega
        subst hk'
        go_wp2
        go_ret
        refine ⟨rfl, ⟨?_, ?_⟩, ⟨hgr.os, hgr.tape, hgr.output, hgr.size, fun j hj hne => hgr.block j hj (fun e => by injection e with e; omega)⟩, hs⟩
        · rw [length_upFrom]; simpa using hr
        · intro j hj; simp [Value.ownBlock] at hj; omega

set_option maxRecDepth 100000 in
theorem heldIntS_up (v : Value) (n : Nat) (k0 : Int) (w : World) (h : Rd w v (upFrom k0 n)) (h0 : 0 ≤ k0) (hb : k0 + n ≤ 4611686018427387904) :
    Calls Try.prog 24 #[v, .int .i64 k0] w fun e w' => e = .returned (.int .i64 (k0 + n)) ∧ w' = w := by
  obtain ⟨a1, c1, rfl, l1, m1, r1⟩ := h
  rw [length_upFrom] at *
  go_enter Try.func24, Try.ntmps24
  go_wp2
  go_loop [1, 5] (fun q i => ∃ k : Nat, k ≤ n ∧ i = .int .i64 k ∧ q = .int .i64 (k0 + k)) (fun _ i => n - (intOf i).toNat)
  case atStart => exact ⟨0, Nat.zero_le _, rfl, by simp⟩
  case round =>
    obtain ⟨k, hk, rfl, rfl⟩ := hrel
    by_cases hlt : k < n
    · obtain ⟨g1, o1, rfl, -, x1⟩ := r1 (by omega)
      have y1 := x1 k hlt
      rw [getD_upFrom _ _ _ hlt] at y1
      clear x1 r1
      go_wp2
      go_round
      case rel => exact ⟨k + 1, by omega, by go_num, by go_num⟩
      case measure => simp [intOf]; omega
    · have hk' : k = n := by omega
      subst hk'
      go_wp2
      go_ret
      exact ⟨rfl, rfl⟩


def hasB (x : Int) (zs : List Int) : Bool := zs.contains x
set_option maxRecDepth 100000 in
theorem hasInt_any (v : Value) (zs : List Int) (x : Int) (w : World) (h : Rd w v zs) :
    Calls Try.prog 36 #[v, .int .i64 x] w fun e w' => e = .returned (.bool (hasB x zs)) ∧ w' = w := by
  obtain ⟨a1, c1, rfl, l1, m1, r1⟩ := h
  go_enter Try.func36, Try.ntmps36
  go_wp2
  go_loop [5] (fun i => ∃ k : Nat, k ≤ zs.length ∧ i = .int .i64 k ∧ Hid (hasB x (zs.take k) = false)) (fun i => zs.length - (intOf i).toNat)
  case atStart => exact ⟨0, Nat.zero_le _, rfl, by simp [hasB, Hid]⟩
  case round =>
    obtain ⟨k, hk, rfl, hno⟩ := hrel
    by_cases hlt : k < zs.length
    · obtain ⟨g1, o1, z, rfl, hg1, x1, HZ⟩ := rd_at r1 k hlt
      clear r1
      have e := take_snoc zs k hlt
      by_cases hx : z = x
      · have hq : (z == x) = true := by simpa using hx
        have hm : hasB x zs = true := by
          have : z ∈ zs := by rw [HZ.out]; simp [List.getD, List.getElem?_eq_getElem hlt]
          subst hx; simpa [hasB] using this
        have HE := Lib.hid e; have HM := Lib.hid hm
        clear e hx hm
        go_wp2
        go_ret
        exact ⟨ret_bool HM.out.symm, rfl⟩
      · have hq : (z == x) = false := by simpa using hx
        have hno' : hasB x (zs.take (k + 1)) = false := by rw [e, ← HZ.out]; have := hno.out; simp [hasB] at this ⊢; exact ⟨this, fun h => hx h.symm⟩
        have HN := Lib.hid hno'
        clear e hx hno hno'
        go_wp2
        go_round
        case rel => exact ⟨k + 1, by omega, by go_num, HN⟩
        case measure => simp [intOf]; omega
    · have hk' : k = zs.length := by omega
      subst hk'
      have hm : hasB x zs = false := by have := hno.out; rwa [List.take_length] at this
      have HM := Lib.hid hm
      clear hm hno
      go_wp2
      go_ret
      exact ⟨ret_bool HM.out.symm, rfl⟩



end Go.Proofs.Ytajelgheccfcoaa

/- The laws' marks in lists of sayings. -/
import Derived.Test.YtajelgheccfcoaaSys
import Derived.Laws.BytesArg
namespace Go.Proofs.Ytajelgheccfcoaa
open Go.RowKit

/-- A text of one byte, as the program makes it. -/
theorem one_text (W : World) (z : Int) : (convert 37 9 (.slice (some ⟨W.heap.size, 0, none⟩) 1 1)).run Try.prog (W.alloc (.cells #[.int .u8 z] 5)) = .ok (.string (tx [UInt8.ofNat z.toNat])) (W.alloc (.cells #[.int .u8 z] 5)) := by
  have h := run_convert_bytes_arg (P := Try.prog) (w := W.alloc (.cells #[.int .u8 z] 5)) 37 5 Try.underlying37 Try.underlying5 W.heap.size 0 1 1 [z] rfl (fun i hi => by
    obtain rfl : i = 0 := by omega
    rw [World.cell?_alloc_at _ _ _ _ rfl]; rfl) 9 Try.underlying9
  rw [h]
  congr 2

theorem size_add (a b : ByteArray) : (a ++ b).size = a.size + b.size := by simp
theorem half_pow {n m : Nat} (h : n < 2 ^ m) (h0 : 0 < n) : 1 ≤ m ∧ n / 10 < 2 ^ (m - 1) := by
  cases m with
  | zero => omega
  | succ m => rw [Nat.pow_succ] at h; exact ⟨by omega, by rw [Nat.add_sub_cancel]; omega⟩

set_option maxHeartbeats 1600000 in
set_option maxRecDepth 100000 in
theorem markText_any (k : Int) (w : World) (hk : 0 < k) (hk2 : k ≤ 4611686018427387904) :
    Calls Try.prog 44 #[.int .i64 k] w fun e w' => (∃ S, e = .returned (.string S)) ∧ Below w.heap.size w w' := by
  have hcv := one_text
  obtain ⟨K, rfl⟩ : ∃ K : Nat, k = K := ⟨k.toNat, by omega⟩
  have hK64 : K < 2 ^ 64 := by omega
  go_enter Try.func44, Try.ntmps44
  go_wp2
  go_loopw [0, 3] (fun x s wr => ∃ (n m : Nat) (S : ByteArray), x = .int .i64 n ∧ n ≤ K ∧ s = .string S ∧ S.size + m = 64 ∧ Hid (n < 2 ^ m) ∧ Below w.heap.size w wr) (fun x _ _ => (intOf x).toNat)
  case atStart => exact ⟨K, 64, _, rfl, Nat.le_refl _, rfl, rfl, hK64, Below.refl _ _⟩
  case round =>
    obtain ⟨n, m, S, rfl, hn, rfl, hS, hm, hbr⟩ := hrel
    by_cases h0 : 0 < n
    · have HB := Lib.hid (hbr.alloc hbr.size (.cells #[.int .u8 (48 + (n : Int) % 10)] 5))
      have HM := Lib.hid (half_pow hm.out h0)
      have hm1 := HM.out.1
      have hs1 : (tx [48 + UInt8.ofNat (n % 10)]).size = 1 := rfl
      clear hbr hm
      go_wp2
      go_roundw
      case rel => exact ⟨n / 10, m - 1, _, by simp, by omega, rfl, by rw [size_add, hs1]; omega, HM.out.2, HB.out⟩
      case measure => simp [intOf]; omega
    · have h0' : n = 0 := by omega
      subst h0'
      have HB := Lib.hid hbr
      clear hbr
      go_wp2
      go_ret
      exact ⟨⟨_, rfl⟩, HB.out⟩

theorem Turned.grow {lo hi : Nat} {w w' w'' : World} (h : Turned lo hi w w') (hb : Below w'.heap.size w' w'') : Turned lo hi w w'' :=
  ⟨hb.os.trans h.os, hb.tape.trans h.tape, hb.output.trans h.output, Nat.le_trans h.size hb.size, fun k hk hh => (hb.block k (Nat.lt_of_lt_of_le hk h.size)).trans (h.block k hk hh)⟩
theorem Turned.set {lo hi : Nat} {w w' : World} (h : Turned lo hi w w') (g i : Nat) (v : Value) (h1 : lo ≤ g) (h2 : g < hi) : Turned lo hi w (w'.setCell ⟨g, i, none⟩ v) :=
  ⟨h.os, h.tape, h.output, by simpa using h.size, fun k hk hh => (heap_setCell_other w' ⟨g, i, none⟩ k v (by show k ≠ g; omega)).trans (h.block k hk hh)⟩
theorem owns_on {w w' : World} {lo c n : Nat} {v : Value} {e : TypeId} {xs : List Value} (h : w.ownsRow lo e c v n xs) (hb : Below w.heap.size w w') : w'.ownsRow lo e c v n xs := by
  obtain ⟨h1, h2⟩ := h
  refine ⟨h1, ?_⟩
  rcases h2 with h2 | ⟨g', cap', cur, e1, hg', hh, r⟩
  · exact .inl h2
  · exact .inr ⟨g', cap', cur, e1, hg', (hb.block _ (Array.getElem?_eq_some_iff.1 hh).1).trans hh, r⟩

set_option maxHeartbeats 1600000 in
set_option maxRecDepth 100000 in
theorem markSayingS_any (lo hi : Nat) (v : Value) (ps : List Sy) (k0 : Int) (w : World) (h : OwnS w lo hi v ps) (h0 : 0 < k0) (hb : k0 + 2 * ps.length ≤ 4611686018427387904) :
    Calls Try.prog 22 #[v, .int .i64 k0] w fun e w' => e = .returned (.int .i64 (k0 + 2 * ps.length)) ∧ Turned lo hi w w' := by
  obtain ⟨hown, hi'⟩ := h
  have hcase := hown.2
  rcases hcase with ⟨rfl, hz⟩ | ⟨g, cap, cur, rfl, hg, hh', hn, hm, hsz, ht⟩
  · have hz' := List.length_eq_zero_iff.1 hz
    subst hz'
    go_enter Try.func22, Try.ntmps22
    go_wp2
    refine wp_loop_rounds 1 ?_
    rw [rounds_succ]
    go_wp2
    go_ret
    exact ⟨by simp, ⟨rfl, rfl, rfl, Nat.le_refl _, fun _ _ _ => rfl⟩⟩
  · have hgh : g < hi := hi' g rfl
    clear hh' ht hsz
    unfold maxLen at hm
    go_enter Try.func22, Try.ntmps22
    go_wp2
    go_loopw [1, 5] (fun q i wr => ∃ (k : Nat) (xs : List Value), k ≤ ps.length ∧ i = .int .i64 k ∧ q = .int .i64 (k0 + 2 * (k : Int)) ∧ wr.ownsRow lo 45 2 (.slice (some ⟨g, 0, none⟩) ps.length cap) ps.length xs ∧ Turned lo hi w wr)
      (fun _ i _ => ps.length - (intOf i).toNat)
    case atStart => exact ⟨0, _, Nat.zero_le _, rfl, by simp, hown, ⟨rfl, rfl, rfl, Nat.le_refl _, fun _ _ _ => rfl⟩⟩
    case round =>
      clear hown
      obtain ⟨k, xs, hk, rfl, rfl, hr, htu⟩ := hrel
      by_cases hlt : k < ps.length
      · have hlx := hr.1
        have f0 := hr.frozenAt (k * 2)
        have hat : ∃ u, wr.cell? ⟨g, k * 2, none⟩ = some u := by
          have := hr.cellAt (k * 2) (by omega)
          rw [List.getElem?_eq_getElem (by omega)] at this
          exact ⟨_, this⟩
        obtain ⟨u0, d0⟩ := hat
        obtain ⟨W4, hW4⟩ : ∃ W4 : World, W4 = wr.setCell ⟨g, k * 2, none⟩ (.int .i64 (k0 + 2 * (k : Int))) := ⟨_, rfl⟩
        have s1 := (hr.stored (k * 2) (.int .i64 (k0 + 2 * (k : Int)))).1
        have t1 := htu.set g (k * 2) (.int .i64 (k0 + 2 * (k : Int))) hg hgh
        rw [← hW4] at s1 t1
        have HW4 := Lib.hid hW4
        have HS1 := Lib.hid s1
        have HT1 := Lib.hid t1
        clear hW4 s1 t1 hr htu
        have hk0 : 0 < k0 + 2 * (k : Int) + 1 := by omega
        have hk1 : k0 + 2 * (k : Int) + 1 ≤ 4611686018427387904 := by omega
        go_wp2_with fail
        rw [← HW4.out]
        with_reducible refine (markText_any _ _ hk0 hk1).mono ?_
        rintro e w5 ⟨⟨S, rfl⟩, b5⟩
        have hr5 := owns_on HS1.out b5
        have ht5 := HT1.out.grow b5
        have f1 := hr5.frozenAt (k * 2 + 1)
        have hlx5 := hr5.1
        have hat : ∃ u, w5.cell? ⟨g, k * 2 + 1, none⟩ = some u := by
          have := hr5.cellAt (k * 2 + 1) (by omega)
          rw [List.getElem?_eq_getElem (by omega)] at this
          exact ⟨_, this⟩
        obtain ⟨u1, d1⟩ := hat
        have HS2 := Lib.hid (hr5.stored (k * 2 + 1) (.string S)).1
        have HT2 := Lib.hid (ht5.set g (k * 2 + 1) (.string S) hg hgh)
        clear hr5 ht5 b5 hlx hlx5 f0 d0
        go_wp2
        go_roundw
        case rel => exact ⟨k + 1, _, by omega, by go_num, by go_num, HS2.out, HT2.out⟩
        case measure => simp [intOf]; omega
      · have hk' : k = ps.length := by omega
        subst hk'
        have HT := Lib.hid htu
        clear htu hr
        go_wp2
        go_ret
        exact ⟨rfl, HT.out⟩
end Go.Proofs.Ytajelgheccfcoaa

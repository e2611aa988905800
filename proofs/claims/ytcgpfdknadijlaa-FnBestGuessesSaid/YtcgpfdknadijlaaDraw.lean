/- The reader of a code: it always answers, within its bounds. -/
import Derived.Test.YtcgpfdknadijlaaProg
import Derived.Test.YtcgpfdknadijlaaBase
namespace Go.Proofs.Ytcgpfdknadijlaa
open Go.RowKit

/-- Block g is a reader of bytes; it has been asked at most B times. -/
def Rdr (w : World) (g : Nat) (B : Nat) : Prop :=
  ∃ (A : Option Addr) (c : Nat) (p : Int) (bs : List Int), w.heap[g]? = some (.cells #[.slice A bs.length c, .int .i64 p] 65 (0, 0)) ∧ 0 ≤ p ∧ p ≤ B ∧ bs.length ≤ 2000 ∧
    (0 < bs.length → ∃ b off, A = some ⟨b, off, none⟩ ∧ b < g ∧ ∀ j, j < bs.length → ∃ z, w.cell? ⟨b, off + j, none⟩ = some (.int .u8 z) ∧ 0 ≤ z ∧ z ≤ 255)

/-- x is what a reader may answer, asked for a number below m. -/
def PickR (m x : Int) : Prop := 0 ≤ x ∧ (1 ≤ m → x < m) ∧ (m < 1 → x = 0)

theorem ofInt_i64 (a : Nat) (ha : a < 9223372036854775808) : (BitVec.ofInt 64 (a : Int)).toNat = a := by
  rw [BitVec.ofInt_natCast, BitVec.toNat_ofNat]; exact Nat.mod_eq_of_lt (by omega)
theorem i64_xor_nat (a b : Nat) (ha : a < 9223372036854775808) (hb : b < 9223372036854775808) : bits .xor .i64 (a : Int) (b : Int) = ((a ^^^ b : Nat) : Int) := by
  have hx : a ^^^ b < 2 ^ 63 := Nat.xor_lt_two_pow (by omega) (by omega)
  show IntKind.i64.wrap ((BitVec.ofInt 64 (a : Int) ^^^ BitVec.ofInt 64 (b : Int)).toNat : Int) = _
  rw [BitVec.toNat_xor, ofInt_i64 a ha, ofInt_i64 b hb, IntKind.wrap_i64]
  omega

theorem pickR_rem (X m : Int) (h0 : 0 ≤ X) (hm : 1 ≤ m) : PickR m (X.tmod m) := by
  rw [Int.tmod_eq_emod_of_nonneg h0]
  exact ⟨Int.emod_nonneg _ (by omega), fun _ => Int.emod_lt_of_pos _ (by omega), fun h => by omega⟩

theorem pickR_rem' (X m : Int) (hm : 1 ≤ m) : PickR m (X % m) :=
  ⟨Int.emod_nonneg _ (by omega), fun _ => Int.emod_lt_of_pos _ (by omega), fun h => by omega⟩

theorem pick_mix (z y m : Int) (q N : Nat) (hz0 : 0 ≤ z) (hz1 : z ≤ 255) (hy0 : 0 ≤ y) (hy1 : y ≤ 255) (hq : q ≤ 1099511627776) (hm : 1 ≤ m) :
    PickR m ((bits BinOp.xor IntKind.i64 (wrap64 (z * 131 + y * 1117 + (q : Int) * 29 + wrap64 (wrap64 ((q : Int) / (N : Int)) * 53))) (wrap64 ((wrap64 (z * 131 + y * 1117 + (q : Int) * 29 + wrap64 (wrap64 ((q : Int) / (N : Int)) * 53))).tdiv 64))).tmod m) := by
  have hd : (q : Int) / (N : Int) ≤ q ∧ 0 ≤ (q : Int) / (N : Int) := by
    have e1 : (q : Int) / (N : Int) = ((q / N : Nat) : Int) := rfl
    have e2 := Nat.div_le_self q N
    rw [e1]
    exact ⟨Int.ofNat_le.2 e2, Int.natCast_nonneg _⟩
  rw [IntWalk.wrap64_in ((q : Int) / (N : Int)) (by omega), IntWalk.wrap64_in ((q : Int) / (N : Int) * 53) (by omega)]
  generalize (q : Int) / (N : Int) = d at *
  obtain ⟨X, hX⟩ : ∃ X : Nat, (X : Int) = z * 131 + y * 1117 + (q : Int) * 29 + d * 53 := ⟨(z * 131 + y * 1117 + (q : Int) * 29 + d * 53).toNat, by omega⟩
  rw [← hX, IntWalk.wrap64_in (X : Int) (by omega)]
  have e : ((X : Int)).tdiv 64 = ((X / 64 : Nat) : Int) := rfl
  rw [e, IntWalk.wrap64_in _ (by omega), i64_xor_nat _ _ (by omega) (by omega)]
  exact pickR_rem _ _ (by omega) hm

set_option maxRecDepth 100000 in
theorem pick_any (g B : Nat) (m : Int) (w : World) (h : Rdr w g B) (hB : B ≤ 1099511627776) :
    Calls Try.prog 33 #[.pointer (some ⟨g, 0, none⟩), .int .i64 m] w fun e w' => ∃ x, e = .returned (.int .i64 x) ∧ PickR m x ∧ Rdr w' g (B + 1) ∧ Turned g (g + 1) w w' ∧ w'.heap.size = w.heap.size := by
  obtain ⟨A, c, p, bs, hb, hp0, hp1, hn, hc⟩ := h
  obtain ⟨q, rfl⟩ := Int.eq_ofNat_of_zero_le hp0
  have c0 : w.cell? ⟨g, 0, none⟩ = some (.slice A bs.length c) := by rw [cell_of_row w g 0 _ _ _ hb]; rfl
  have c1 : w.cell? ⟨g, 1, none⟩ = some (.int .i64 q) := by rw [cell_of_row w g 1 _ _ _ hb]; rfl
  have f1 : w.frozen? ⟨g, 1, none⟩ = false := frozen_of_row w g 1 _ _ hb
  have HB : Hid (∀ n, Rdr ((w.setCell ⟨g, 1, none⟩ (.int .i64 ((q : Int) + 1))).drewN n) g (B + 1) ∧ Turned g (g + 1) w ((w.setCell ⟨g, 1, none⟩ (.int .i64 ((q : Int) + 1))).drewN n)) := by
    intro n
    have hh := heap_setCell_same w g 1 _ _ (.int .i64 ((q : Int) + 1)) hb
    refine ⟨⟨A, c, (q : Int) + 1, bs, ?_, by omega, by omega, hn, fun h0 => ?_⟩, ⟨rfl, rfl, rfl, by simp, fun k hk hne => heap_setCell_other w ⟨g, 1, none⟩ k _ (by show k ≠ g; omega)⟩⟩
    · simpa using hh
    · obtain ⟨b, off, e, hbg, hcc⟩ := hc h0
      refine ⟨b, off, e, hbg, fun j hj => ?_⟩
      obtain ⟨z, hz, r⟩ := hcc j hj
      exact ⟨z, (World.cell?_setCell_other w ⟨g, 1, none⟩ _ _ (by intro e; injection e; omega)).trans hz, r⟩
  generalize hN : bs.length = N at *
  clear hN
  clear hb
  by_cases hm : m < 1
  · go_enter Try.func33, Try.ntmps33
    go_wp2
    go_ret
    exact ⟨0, rfl, ⟨by omega, by omega, fun _ => rfl⟩, (HB.out 0).1, (HB.out 0).2, by simp⟩
  · by_cases hz : N = 0
    · have hz' : ((N : Int) == 0) = true := by simp [hz]
      clear hz
      go_enter Try.func33, Try.ntmps33
      go_wp2
      go_ret
      exact ⟨0, rfl, ⟨by omega, by omega, fun _ => rfl⟩, (HB.out 0).1, (HB.out 0).2, by simp⟩
    · have hz' : ((N : Int) == 0) = false := by simp; omega
      obtain ⟨b, off, rfl, hbg, hcc⟩ := hc (by omega)
      by_cases hlt : (q : Int) < N
      · obtain ⟨z, hcz, hz0, hz1⟩ := hcc q (by omega)
        have hcz' : (w.setCell ⟨g, 1, none⟩ (.int .i64 ((q : Int) + 1))).cell? ⟨b, off + q, none⟩ = some (.int .u8 z) := (World.cell?_setCell_other w ⟨g, 1, none⟩ _ _ (by intro e; injection e; omega)).trans hcz
        clear hc hcc
        go_enter Try.func33, Try.ntmps33
        go_wp2
        go_ret
        refine ⟨_, rfl, ?_, (HB.out 0).1, (HB.out 0).2, by simp⟩
        first | exact pickR_rem' _ _ (by omega) | exact pickR_rem _ _ hz0 (by omega)
      · obtain ⟨z, hcz, hz0, hz1⟩ := hcc (q % N) (Nat.mod_lt _ (by omega))
        obtain ⟨y, hcy, hy0, hy1⟩ := hcc ((q * 7 + 3) % N) (Nat.mod_lt _ (by omega))
        have hcz' : (w.setCell ⟨g, 1, none⟩ (.int .i64 ((q : Int) + 1))).cell? ⟨b, off + q % N, none⟩ = some (.int .u8 z) := (World.cell?_setCell_other w ⟨g, 1, none⟩ _ _ (by intro e; injection e; omega)).trans hcz
        have hcy' : (w.setCell ⟨g, 1, none⟩ (.int .i64 ((q : Int) + 1))).cell? ⟨b, off + (q * 7 + 3) % N, none⟩ = some (.int .u8 y) := (World.cell?_setCell_other w ⟨g, 1, none⟩ _ _ (by intro e; injection e; omega)).trans hcy
        have i1 : (q : Int) % N < N := Int.emod_lt_of_pos _ (by omega)
        have i2 : ((q : Int) * 7 + 3) % N < N := Int.emod_lt_of_pos _ (by omega)
        have i3 : 0 ≤ (q : Int) % N := Int.emod_nonneg _ (by omega)
        have i4 : 0 ≤ ((q : Int) * 7 + 3) % N := Int.emod_nonneg _ (by omega)
        clear hc hcc
        go_enter Try.func33, Try.ntmps33
        go_wp2
        go_quiet (fail)
        go_wp2
        go_ret
        exact ⟨_, rfl, pick_mix z y m q N hz0 hz1 hy0 hy1 (by omega) (by omega), (HB.out _).1, (HB.out _).2, by simp⟩
/-- Whether a reader may say true to one in n. -/
def OddR (n : Int) (b : Bool) : Prop := n ≤ 0 → b = false

set_option maxRecDepth 100000 in
theorem odd_any (g B : Nat) (m : Int) (w : World) (h : Rdr w g B) (hB : B ≤ 1099511627775) :
    Calls Try.prog 35 #[.pointer (some ⟨g, 0, none⟩), .int .i64 m] w fun e w' => ∃ b, e = .returned (.bool b) ∧ OddR m b ∧ Rdr w' g (B + 1) ∧ Turned g (g + 1) w w' ∧ w'.heap.size = w.heap.size := by
  by_cases h0 : m ≤ 0
  · have hd : decide (0 < m) = false := by simp; omega
    go_enter Try.func35, Try.ntmps35
    go_wp2
    go_ret
    obtain ⟨A, c, p, bs, h1, h2, h3, h4⟩ := h
    exact ⟨_, rfl, fun _ => rfl, ⟨A, c, p, bs, h1, h2, by omega, h4⟩, ⟨rfl, rfl, rfl, Nat.le_refl _, fun _ _ _ => rfl⟩, rfl⟩
  · go_enter Try.func35, Try.ntmps35
    go_wp2_with fail
    refine (pick_any g B m w h (by omega)).mono ?_
    rintro e w1 ⟨x, rfl, hx, hr, ht, hs⟩
    have HS := Lib.hid hs; clear hs
    go_wp2
    go_ret
    exact ⟨_, rfl, fun h => absurd h (by omega), hr, ht, HS.out⟩

end Go.Proofs.Ytcgpfdknadijlaa

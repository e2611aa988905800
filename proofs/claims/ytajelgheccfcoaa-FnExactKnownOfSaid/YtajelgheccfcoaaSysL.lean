/- The laws' helpers on lists of sayings. -/
import Derived.Test.YtajelgheccfcoaaSys
namespace Go.Proofs.Ytajelgheccfcoaa
open Go.RowKit

set_option maxRecDepth 100000 in
theorem szSaying_any (x : Int) (l : List UInt8) (left : Int) (w : World) (hl : l.length ≤ 9223372036854775807) (h0 : 0 ≤ left) (h1 : left ≤ 1048576) :
    Calls Try.prog 38 #[.agg #[.int .i64 x, .string (tx l)], .int .i64 left] w fun e w' => e = .returned (.int .i64 (if left < l.length then -1 else left - l.length)) ∧ Below w.heap.size w w' := by
  have hbW : Below w.heap.size w (w.alloc (.cells #[.int .i64 x, .string (tx l)] 50)) := (Below.refl _ _).alloc (Nat.le_refl _) _
  have HB := Lib.hid hbW
  have hsz : (tx l).size = l.length := tx_size l
  clear hbW
  by_cases hb : left < l.length
  · rw [if_pos hb]
    have hd : decide (left - ((tx l).size : Int) < 0) = true := by rw [hsz]; simp; omega
    have hw : IntKind.i64.wrap (left - ((tx l).size : Int)) = left - ((tx l).size : Int) := by rw [IntKind.wrap_i64, hsz]; omega
    clear hsz
    generalize tx l = S at *
    go_enter Try.func38, Try.ntmps38
    go_wp2
    go_ret
    exact ⟨rfl, HB.out⟩
  · rw [if_neg hb]
    have hd : decide (left - ((tx l).size : Int) < 0) = false := by rw [hsz]; simp; omega
    have hw : IntKind.i64.wrap (left - ((tx l).size : Int)) = left - ((tx l).size : Int) := by rw [IntKind.wrap_i64, hsz]; omega
    have HZ := Lib.hid hsz
    clear hsz
    generalize tx l = S at *
    go_enter Try.func38, Try.ntmps38
    go_wp2
    go_ret
    exact ⟨ret_int (by rw [HZ.out]), HB.out⟩

set_option maxRecDepth 100000 in
theorem szSayingS_any (v : Value) (ps : List Sy) (w : World) (h : RdS w v ps) (hm : ∀ q ∈ ps, q.2.length ≤ 9223372036854775807) :
    Calls Try.prog 12 #[v, .int .i64 1048576] w fun e w' => (∃ L : Int, e = .returned (.int .i64 L) ∧ -1 ≤ L ∧ L ≤ 1048576 ∧ (0 ≤ L → ps.length ≤ 1048576 ∧ ∀ q ∈ ps, q.2.length ≤ 1048576)) ∧ Below w.heap.size w w' := by
  have HR := Lib.hid h
  have HM := Lib.hid hm
  obtain ⟨a1, c1, rfl, l1, m1, -⟩ := h
  clear hm
  by_cases hbig : 1048576 < ps.length
  · go_enter Try.func12, Try.ntmps12
    go_wp2
    go_ret
    exact ⟨⟨-1, rfl, by omega, by omega, by omega⟩, Below.refl _ _⟩
  · go_enter Try.func12, Try.ntmps12
    go_wp2
    go_loopw [1, 5] (fun q i wr => ∃ (k : Nat) (L : Int), k ≤ ps.length ∧ i = .int .i64 k ∧ q = .int .i64 L ∧ 0 ≤ L ∧ L ≤ 1048576 ∧ Hid (∀ q ∈ ps.take k, q.2.length ≤ 1048576) ∧ Below w.heap.size w wr) (fun _ i _ => ps.length - (intOf i).toNat)
    case atStart => exact ⟨0, _, Nat.zero_le _, rfl, rfl, by omega, by omega, (fun q hq => by simp at hq), Below.refl _ _⟩
    case round =>
      obtain ⟨k, L, hk, rfl, rfl, hL0, hL1, hq, hbr⟩ := hrel
      by_cases hlt : k < ps.length
      · obtain ⟨a2, c2, e9, l2, m2, r2⟩ := HR.out.below hbr (Nat.le_refl _)
        injection e9 with e1 e2 e3
        subst e1 e3
        obtain ⟨g1, o1, x, l, rfl, hg1, ⟨c0, c1⟩, Z1⟩ := rdS_at r2 k hlt
        have hll : l.length ≤ 9223372036854775807 := HM.out _ (memS hlt Z1.out)
        have HA := Lib.hid (fun W => szSaying_any x l L W hll hL0 hL1)
        have HZ := Lib.hid Z1.out
        have HBR := Lib.hid hbr
        clear r2 Z1 hbr
        obtain ⟨N, hN⟩ : ∃ N, N = l.length := ⟨_, rfl⟩
        rw [← hN] at HA hll
        have HN := Lib.hid hN
        clear hN
        generalize tx l = S at *
        go_wp2_with fail
        with_reducible refine (HA.out _).mono ?_
        rintro e w2 ⟨rfl, b2⟩
        have HB2 := Lib.hid (HBR.out.trans (b2.mono HBR.out.size))
        clear b2
        by_cases hln : L < N
        · rw [if_pos hln]
          go_wp2
          go_ret
          exact ⟨⟨-1, rfl, by omega, by omega, by omega⟩, HB2.out⟩
        · rw [if_neg hln]
          have HS : Hid (∀ q ∈ ps.take (k + 1), q.2.length ≤ 1048576) := by
            intro z hz
            rw [takeS_snoc ps k hlt, List.mem_append, List.mem_singleton] at hz
            rcases hz with hz | rfl
            · exact hq.out z hz
            · rw [← HZ.out]; show l.length ≤ _; rw [← HN.out]; omega
          go_wp2
          go_roundw
          case rel => exact ⟨k + 1, _, by omega, by go_num, rfl, by omega, by omega, HS, HB2.out⟩
          case measure => simp [intOf]; omega
      · have hk' : k = ps.length := by omega
        subst hk'
        have HB := Lib.hid hbr
        clear hbr
        go_wp2
        go_ret
        exact ⟨⟨L, rfl, by omega, hL1, fun _ => ⟨by omega, fun z hz => hq.out z (by rw [List.take_length]; exact hz)⟩⟩, HB.out⟩

set_option maxRecDepth 100000 in
theorem eqSaying_true (x : Int) (S : ByteArray) (w : World) :
    Calls Try.prog 40 #[.agg #[.int .i64 x, .string S], .agg #[.int .i64 x, .string S]] w fun e w' => e = .returned (.bool true) ∧ Below w.heap.size w w' := by
  have hb2 : Below w.heap.size w ((w.alloc (.cells #[.int .i64 x, .string S] 45)).alloc (.cells #[.int .i64 x, .string S] 45)) := ((Below.refl _ _).alloc (Nat.le_refl _) _).alloc (by simp) _
  have HB := Lib.hid hb2; clear hb2
  go_enter Try.func40, Try.ntmps40
  go_wp2
  go_ret
  exact ⟨rfl, HB.out⟩

set_option maxRecDepth 100000 in
theorem eqSayingS_true (v1 v2 : Value) (ps : List Sy) (w : World) (h1 : RdS w v1 ps) (h2 : RdS w v2 ps) :
    Calls Try.prog 16 #[v1, v2] w fun e w' => e = .returned (.bool true) ∧ Below w.heap.size w w' := by
  have HR1 := Lib.hid h1; have HR2 := Lib.hid h2
  obtain ⟨a1, c1, rfl, l1, m1, -⟩ := h1
  obtain ⟨a2, c2, rfl, l2, m2, -⟩ := h2
  go_enter Try.func16, Try.ntmps16
  go_wp2
  go_loopw [5] (fun i wr => ∃ k : Nat, k ≤ ps.length ∧ i = .int .i64 k ∧ Below w.heap.size w wr) (fun i _ => ps.length - (intOf i).toNat)
  case atStart => exact ⟨0, Nat.zero_le _, rfl, Below.refl _ _⟩
  case round =>
    obtain ⟨k, hk, rfl, hb⟩ := hrel
    by_cases hlt : k < ps.length
    · obtain ⟨_, _, e1, _, _, r1⟩ := HR1.out.below hb (Nat.le_refl _)
      obtain ⟨_, _, e2, _, _, r2⟩ := HR2.out.below hb (Nat.le_refl _)
      injection e1 with e3 e4 e5; subst e3 e5
      injection e2 with e6 e7 e8; subst e6 e8
      obtain ⟨g1, o1, x, l, rfl, hg1, ⟨q0, q1⟩, Z1⟩ := rdS_at r1 k hlt
      obtain ⟨g2, o2, x', l', rfl, hg2, ⟨p0, p1⟩, Z2⟩ := rdS_at r2 k hlt
      have e9 := Z1.out.trans Z2.out.symm
      injection e9 with e9 e10
      subst e9 e10
      have HB := Lib.hid hb
      clear r1 r2 Z1 Z2 hb e4 e7
      generalize tx l = S at *
      go_wp2
      go_region_held3 (fun wx => wx.cell? ⟨g1, o1 + k * 2, none⟩ = some (.int .i64 x) ∧ wx.cell? ⟨g1, o1 + k * 2 + 1, none⟩ = some (.string S) ∧ wx.cell? ⟨g2, o2 + k * 2, none⟩ = some (.int .i64 x) ∧ wx.cell? ⟨g2, o2 + k * 2 + 1, none⟩ = some (.string S))
        (first | exact ⟨(b8.cell (p := ⟨g1, o1 + k * 2, none⟩) hg1).trans q0, (b8.cell (p := ⟨g1, o1 + k * 2 + 1, none⟩) hg1).trans q1, (b8.cell (p := ⟨g2, o2 + k * 2, none⟩) hg2).trans p0, (b8.cell (p := ⟨g2, o2 + k * 2 + 1, none⟩) hg2).trans p1⟩ | exact ⟨q0, q1, p0, p1⟩ | go_keep)
        (first | (go_at_call 40; refine (eqSaying_true _ _ _).mono ?_; rintro e w8 ⟨rfl, b8⟩))
      have HB8 := Lib.hid ((HB.out.drew).trans (b8.mono (by rw [World.size_drew]; exact HB.out.size)))
      clear b8 q0 q1 p0 p1
      go_wp2
      go_roundw
      case rel => exact ⟨k + 1, by omega, by go_num, HB8.out⟩
      case measure => simp [intOf]; omega
    · go_wp2
      go_ret
      exact ⟨rfl, hb⟩
end Go.Proofs.Ytajelgheccfcoaa

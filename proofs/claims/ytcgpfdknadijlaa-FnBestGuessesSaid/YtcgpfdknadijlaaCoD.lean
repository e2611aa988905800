/- Drawn ways of guessing. -/
import Derived.Test.YtcgpfdknadijlaaCoP
import Derived.Test.YtcgpfdknadijlaaDrawVis
import Derived.Laws.BytesArg
import Derived.Deep.RegionWith
namespace Go.Proofs.Ytcgpfdknadijlaa
open Go.RowKit

theorem one_text (W : World) (z : Int) : (convert 22 9 (.slice (some ⟨W.heap.size, 0, none⟩) 1 1)).run Try.prog (W.alloc (.cells #[.int .u8 z] 5)) = .ok (.string (tx [UInt8.ofNat z.toNat])) (W.alloc (.cells #[.int .u8 z] 5)) := by
  have h := run_convert_bytes_arg (P := Try.prog) (w := W.alloc (.cells #[.int .u8 z] 5)) 22 5 Try.underlying22 Try.underlying5 W.heap.size 0 1 1 [z] rfl (fun i hi => by
    obtain rfl : i = 0 := by omega
    rw [World.cell?_alloc_at _ _ _ _ rfl]; rfl) 9 Try.underlying9
  rw [h]
  congr 2
theorem size_add (a b : ByteArray) : (a ++ b).size = a.size + b.size := by simp
theorem rdr_alloc {w : World} {g B : Nat} (h : Rdr w g B) (o : Obj) : Rdr (w.alloc o) g B := rdr_keep h fun k hk => Below.heap_alloc _ _ _ (by have := rdr_lt h; omega)
theorem rdr_below {w w' : World} {g B : Nat} (h : Rdr w g B) (hb : Below w.heap.size w w') : Rdr w' g B := rdr_keep h fun k hk => hb.block _ (by have := rdr_lt h; omega)
theorem turned_drew {lo hi : Nat} {a b : World} (h : Turned lo hi a b) : Turned lo hi a b.drew := ⟨h.os, h.tape, h.output, h.size, h.block⟩
theorem Turned.grow {lo hi : Nat} {w w' w'' : World} (h : Turned lo hi w w') (hb : Below w'.heap.size w' w'') : Turned lo hi w w'' :=
  ⟨hb.os.trans h.os, hb.tape.trans h.tape, hb.output.trans h.output, Nat.le_trans h.size hb.size, fun k hk hh => (hb.block k (Nat.lt_of_lt_of_le hk h.size)).trans (h.block k hk hh)⟩
theorem cell_u {w : World} {o : Obj} {b i : Nat} {v : Value} (h : w.cell? ⟨b, i, none⟩ = some v) : (w.alloc o).cell? ⟨b, i, none⟩ = some v := (World.cell?_alloc_lt _ _ ⟨b, i, none⟩ (block_lt_of_cell h)).trans h
theorem cell_t {w w' : World} {g b i : Nat} {v : Value} (ht : Turned g (g + 1) w w') (hb : b ≠ g) (h : w.cell? ⟨b, i, none⟩ = some v) : w'.cell? ⟨b, i, none⟩ = some v :=
  (World.cell?_of_block (a := ⟨b, i, none⟩) (ht.block b (block_lt_of_cell h) (by omega))).trans h

set_option maxRecDepth 100000 in
theorem number_any (n : Nat) (hn : n < 10) (w : World) :
    Calls Try.prog 37 #[.int .i64 (n : Int)] w fun e w' => (∃ S, e = .returned (.string S) ∧ S.size = 1) ∧ Below w.heap.size w w' := by
  have hcv := one_text
  have hb : Below w.heap.size w (w.alloc (.cells #[.int .u8 (48 + (n : Int))] 5)) := (Below.refl _ _).alloc (Nat.le_refl _) _
  have HB := Lib.hid hb
  clear hb
  go_enter Try.func37, Try.ntmps37
  go_wp2
  go_ret
  exact ⟨⟨_, rfl, rfl⟩, HB.out⟩

set_option maxHeartbeats 3200000 in
set_option maxRecDepth 100000 in
theorem guesses_any (g : Nat) : ∀ (d fr to B : Nat) (w : World), fr + d = to → to ≤ 9 → Rdr w g B → B ≤ 1000 - 10 * d →
    Calls Try.prog 41 #[.pointer (some ⟨g, 0, none⟩), .int .i64 (fr : Int), .int .i64 (to : Int)] w fun e w' => (∃ S, e = .returned (.string S) ∧ S.size = 4 * d + 1) ∧ Rdr w' g (B + d) ∧ Turned g (g + 1) w w' := by
  intro d
  induction d using Nat.strongRecOn with
  | _ d ih =>
    intro fr to B w hd hto h hB
    cases d with
    | zero =>
      obtain rfl : fr = to := by omega
      go_enter Try.func41, Try.ntmps41
      go_wp2
      go_ret
      exact ⟨⟨_, rfl, rfl⟩, h, turned_refl _ _ _⟩
    | succ d =>
      have q1 : ((fr : Int) == (to : Int)) = false := by rw [beq_eq_false_iff_ne]; omega
      have HIH := Lib.hid ih
      have T := Lib.hid (pick_any g B ((to : Int) - (fr : Int)) w h (by omega))
      clear ih h
      go_enter Try.func41, Try.ntmps41
      go_wp2_with fail
      with_reducible refine T.out.mono ?_
      rintro e w1 ⟨x, rfl, ⟨x0, x1, -⟩, r1, t1, -⟩
      obtain ⟨X, rfl⟩ := Int.eq_ofNat_of_zero_le x0
      have hX : X ≤ d := by have := x1 (by omega); omega
      have HR1 := Lib.hid r1
      have HT1 := Lib.hid t1
      obtain ⟨k, hk⟩ : ∃ k, k = fr + X := ⟨_, rfl⟩
      have hkk : (fr : Int) + (X : Int) = (k : Int) := by omega
      have hk8 : k ≤ 8 := by omega
      have T2 := Lib.hid (HIH.out X (by omega) fr k (B + 1) w1 hk.symm (by omega) HR1.out (by omega))
      have HX := Lib.hid hk
      clear r1 t1 x1 hk
      go_wp2_with fail
      with_reducible refine T2.out.mono ?_
      rintro e w2 ⟨⟨S2, rfl, hS2⟩, r2, t2⟩
      have HR2 := Lib.hid r2
      have HT2 := Lib.hid (turned_trans HT1.out t2)
      have hs2 : S2.size ≤ 40 := by omega
      clear r2 t2
      go_wp2_with fail
      with_reducible refine (number_any k (by omega) w2).mono ?_
      rintro e w3 ⟨⟨S3, rfl, hS3⟩, b3⟩
      have HR3 := Lib.hid (rdr_below HR2.out b3)
      have HT3 := Lib.hid (HT2.out.grow b3)
      clear b3
      have T4 := Lib.hid (HIH.out (d - X) (by omega) (k + 1) to (B + 1 + X) w3 (by have := HX.out; omega) hto HR3.out (by omega))
      rw [show ((k + 1 : Nat) : Int) = (k : Int) + 1 by omega] at T4
      go_wp2_with fail
      with_reducible refine T4.out.mono ?_
      rintro e w4 ⟨⟨S4, rfl, hS4⟩, r4, t4⟩
      have HR4 := Lib.hid r4
      have HT4 := Lib.hid (turned_trans HT3.out t4)
      have hs4 : S4.size ≤ 40 := by omega
      clear r4 t4
      go_wp2
      go_ret
      refine ⟨⟨_, rfl, ?_⟩, rdr_more HR4.out (by omega), HT4.out⟩
      rw [size_add, size_add, size_add, size_add, hS2, hS3, hS4]
      show 1 + (4 * X + 1) + 1 + (4 * (d - X) + 1) + 1 = _
      omega
end Go.Proofs.Ytcgpfdknadijlaa

/- Drawn texts. -/
import Derived.Test.YtajelgheccfcoaaDrawVis
import Derived.Test.YtajelgheccfcoaaMark
import Derived.Deep.RegionHeld3
import Derived.Deep.RegionWith
namespace Go.Proofs.Ytajelgheccfcoaa
open Go.RowKit

theorem rdr_alloc {w : World} {g B : Nat} (h : Rdr w g B) (o : Obj) : Rdr (w.alloc o) g B := rdr_keep h fun k hk => Below.heap_alloc _ _ _ (by have := rdr_lt h; omega)
theorem rdr_below {w w' : World} {g B : Nat} (h : Rdr w g B) (hb : Below w.heap.size w w') : Rdr w' g B := rdr_keep h fun k hk => hb.block _ (by have := rdr_lt h; omega)
theorem turned_drew {lo hi : Nat} {a b : World} (h : Turned lo hi a b) : Turned lo hi a b.drew := ⟨h.os, h.tape, h.output, h.size, h.block⟩

set_option maxRecDepth 100000 in
theorem number_any (n : Nat) (hn : n < 10) (w : World) :
    Calls Try.prog 57 #[.int .i64 (n : Int)] w fun e w' => (∃ S, e = .returned (.string S) ∧ S.size = 1) ∧ Below w.heap.size w w' := by
  have hcv := one_text
  have hb : Below w.heap.size w (w.alloc (.cells #[.int .u8 (48 + (n : Int))] 5)) := (Below.refl _ _).alloc (Nat.le_refl _) _
  have HB := Lib.hid hb
  clear hb
  go_enter Try.func57, Try.ntmps57
  go_wp2
  go_ret
  exact ⟨⟨_, rfl, rfl⟩, HB.out⟩

/-- How long a drawn text is at most, and how often the reader is asked for it. -/
def lenD : Nat → Nat
  | 0 => 2
  | d + 1 => 2 * lenD d + 3
def SayPost (g B d : Nat) (w : World) (e : Ending) (w' : World) : Prop :=
  ∃ S : ByteArray, e = .returned (.string S) ∧ S.size ≤ lenD d ∧ Rdr w' g (B + lenD d) ∧ Turned g (g + 1) w w'
def pickS (X : Nat) : ByteArray := [⟨#[38]⟩, ⟨#[124]⟩, ⟨#[61]⟩].getD X ⟨#[38]⟩
theorem pickS_size {X : Nat} (h : X < 3) : (pickS X).size = 1 := by
  rcases X with _ | _ | _ | X
  · rfl
  · rfl
  · rfl
  · omega
theorem litS_0 {w : World} {X : Nat} (hX : X < 3) : (w.alloc (.cells #[.string ⟨#[38]⟩, .string ⟨#[124]⟩, .string ⟨#[61]⟩] 9)).cell? ⟨w.heap.size, X, none⟩ = some (.string (pickS X)) := by
  rw [World.cell?_alloc_at _ _ _ _ rfl]
  rcases X with _ | _ | _ | X
  · rfl
  · rfl
  · rfl
  · omega
theorem litS_get {X : Nat} (h : X < [Value.string ⟨#[38]⟩, .string ⟨#[124]⟩, .string ⟨#[61]⟩].length) : [Value.string ⟨#[38]⟩, .string ⟨#[124]⟩, .string ⟨#[61]⟩][X]'h = .string (pickS X) := by
  rcases X with _ | _ | _ | X
  · rfl
  · rfl
  · rfl
  · simp at h; omega
theorem cell_u {w : World} {o : Obj} {b i : Nat} {v : Value} (h : w.cell? ⟨b, i, none⟩ = some v) : (w.alloc o).cell? ⟨b, i, none⟩ = some v := (World.cell?_alloc_lt _ _ ⟨b, i, none⟩ (block_lt_of_cell h)).trans h
theorem cell_t {w w' : World} {g b i : Nat} {v : Value} (ht : Turned g (g + 1) w w') (hb : b ≠ g) (h : w.cell? ⟨b, i, none⟩ = some v) : w'.cell? ⟨b, i, none⟩ = some v :=
  (World.cell?_of_block (a := ⟨b, i, none⟩) (ht.block b (block_lt_of_cell h) (by omega))).trans h

set_option maxHeartbeats 6400000 in
set_option maxRecDepth 100000 in
theorem saying_leaf (g B p : Nat) (w : World) (h : Rdr w g B) (hB : B ≤ 900000) (hp : 1 ≤ p ∧ p ≤ 5) :
    Calls Try.prog 56 #[.pointer (some ⟨g, 0, none⟩), .int .i64 (p : Int), .int .i64 0] w (SayPost g B 0 w) := by
  go_enter Try.func56, Try.ntmps56
  go_wp2_with fail
  with_reducible refine (pick_any g B 4 w h (by omega)).mono ?_
  rintro e w2 ⟨x, rfl, ⟨p0, p1, -⟩, r2, t2, -⟩
  have HT2 := Lib.hid t2
  have HR2 := Lib.hid r2
  clear t2 r2 p1
  by_cases hx : x = 0
  · subst hx
    go_wp2_with fail
    with_reducible refine (pick_any g (B + 1) _ w2 HR2.out (by omega)).mono ?_
    rintro e w3 ⟨y, rfl, ⟨q0, q1, -⟩, r3, t3, -⟩
    obtain ⟨Y, rfl⟩ := Int.eq_ofNat_of_zero_le q0
    have hY : Y < 10 := by have := q1 (by omega); omega
    have HT3 := Lib.hid (turned_trans HT2.out t3)
    have HR3 := Lib.hid r3
    clear t3 r3 q1
    go_wp2_with fail
    with_reducible refine (number_any Y hY w3).mono ?_
    rintro e w4 ⟨⟨S, rfl, hS⟩, b4⟩
    have HT4 := Lib.hid (HT3.out.grow b4)
    have HR4 := Lib.hid (rdr_below HR3.out b4)
    clear b4
    go_wp2
    go_ret
    exact ⟨_, rfl, by rw [size_add, hS]; decide, rdr_more HR4.out (by simp [lenD]), HT4.out⟩
  · have hx' : (x == 0) = false := by rw [beq_eq_false_iff_ne]; exact hx
    go_wp2_with fail
    with_reducible refine (pick_any g (B + 1) _ w2 HR2.out (by omega)).mono ?_
    rintro e w3 ⟨y, rfl, ⟨q0, q1, -⟩, r3, t3, -⟩
    obtain ⟨Y, rfl⟩ := Int.eq_ofNat_of_zero_le q0
    have hY : Y < 10 := by have := q1 (by omega); omega
    have HT3 := Lib.hid (turned_trans HT2.out t3)
    have HR3 := Lib.hid r3
    clear t3 r3 q1
    go_wp2_with fail
    with_reducible refine (number_any Y hY w3).mono ?_
    rintro e w4 ⟨⟨S, rfl, hS⟩, b4⟩
    have HT4 := Lib.hid (HT3.out.grow b4)
    have HR4 := Lib.hid (rdr_below HR3.out b4)
    clear b4
    go_wp2
    go_ret
    exact ⟨_, rfl, by rw [hS]; decide, rdr_more HR4.out (by simp [lenD]), HT4.out⟩

theorem say_size {S5 P S9 : ByteArray} {d : Nat} (n5 : S5.size ≤ lenD d) (y : P.size = 1) (n9 : S9.size ≤ lenD d) : ((⟨#[40]⟩ : ByteArray) ++ S5 ++ P ++ S9 ++ (⟨#[41]⟩ : ByteArray)).size ≤ lenD (d + 1) := by
  rw [size_add, size_add, size_add, size_add, y]
  show 1 + S5.size + 1 + S9.size + 1 ≤ lenD (d + 1)
  simp only [lenD]; omega

end Go.Proofs.Ytajelgheccfcoaa

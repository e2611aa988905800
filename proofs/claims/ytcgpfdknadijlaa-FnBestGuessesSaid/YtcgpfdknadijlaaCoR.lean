/- The reader of ways: taking and expecting bytes. -/
import Derived.Test.YtcgpfdknadijlaaCoP
namespace Go.Proofs.Ytcgpfdknadijlaa
open Go.RowKit

/-- Block g is a reader before the text l, whose next number is n. -/
def Rdw (W : World) (g : Nat) (l : List UInt8) (n : Nat) (bad : Bool) : Prop := W.heap[g]? = some (.cells #[.string (tx l), .int .i64 (n : Int), .bool bad] 71 (0, 0))
theorem rowBlk {w : World} {g : Nat} {cs : Array Value} {t : TypeId} (h : w.heap[g]? = some (.cells cs t (0, 0))) (i : Nat) : w.cell? ⟨g, i, none⟩ = cs[i]? := cell_of_row w g i cs t (0, 0) h
theorem blk3 {w : World} {g : Nat} {x y z : Value} {t : TypeId} (h : w.heap[g]? = some (.cells #[x, y, z] t (0, 0))) :
    (w.cell? ⟨g, 0, none⟩ = some x ∧ w.cell? ⟨g, 1, none⟩ = some y ∧ w.cell? ⟨g, 2, none⟩ = some z) ∧ w.frozen? ⟨g, 0, none⟩ = false ∧ w.frozen? ⟨g, 1, none⟩ = false ∧ w.frozen? ⟨g, 2, none⟩ = false ∧ g < w.heap.size :=
  ⟨⟨rowBlk h 0, rowBlk h 1, rowBlk h 2⟩, frozen_of_row w g 0 _ _ h, frozen_of_row w g 1 _ _ h, frozen_of_row w g 2 _ _ h, (Array.getElem?_eq_some_iff.1 h).1⟩
theorem Rdw.lt {W : World} {g n : Nat} {l : List UInt8} {b : Bool} (h : Rdw W g l n b) : g < W.heap.size := (Array.getElem?_eq_some_iff.1 h).1
theorem turned_set {W : World} (g i : Nat) (v : Value) : Turned g (g + 1) W (W.setCell ⟨g, i, none⟩ v) :=
  ⟨rfl, rfl, rfl, by simp, fun k hk hne => heap_setCell_other W ⟨g, i, none⟩ k _ (by show k ≠ g; omega)⟩
theorem Turned.trans {lo hi : Nat} {w w' w'' : World} (h : Turned lo hi w w') (h' : Turned lo hi w' w'') : Turned lo hi w w'' :=
  ⟨h'.os.trans h.os, h'.tape.trans h.tape, h'.output.trans h.output, Nat.le_trans h.size h'.size, fun k hk hh => (h'.block k (Nat.lt_of_lt_of_le hk h.size) hh).trans (h.block k hk hh)⟩
theorem Rdw.put0 {W : World} {g n : Nat} {l : List UInt8} {b : Bool} (h : Rdw W g l n b) (l' : List UInt8) : Rdw (W.setCell ⟨g, 0, none⟩ (.string (tx l'))) g l' n b := by
  have hh := heap_setCell_same W g 0 _ _ (.string (tx l')) h
  simpa [Rdw] using hh
theorem Rdw.put1 {W : World} {g n : Nat} {l : List UInt8} {b : Bool} (h : Rdw W g l n b) (n' : Nat) : Rdw (W.setCell ⟨g, 1, none⟩ (.int .i64 (n' : Int))) g l n' b := by
  have hh := heap_setCell_same W g 1 _ _ (.int .i64 (n' : Int)) h
  simpa [Rdw] using hh
theorem Rdw.put2 {W : World} {g n : Nat} {l : List UInt8} {b : Bool} (h : Rdw W g l n b) (b' : Bool) : Rdw (W.setCell ⟨g, 2, none⟩ (.bool b')) g l n b' := by
  have hh := heap_setCell_same W g 2 _ _ (.bool b') h
  simpa [Rdw] using hh

set_option maxRecDepth 100000 in
theorem take_any (g n : Nat) (l : List UInt8) (b : Bool) (W : World) (h : Rdw W g l n b) (hl : l.length < 4611686018427387904) :
    Calls Try.prog 46 #[.pointer (some ⟨g, 0, none⟩)] W fun e w' => e = .returned (.int .u8 (hd l : Int)) ∧ Rdw w' g l.tail n b ∧ Turned g (g + 1) W w' := by
  obtain ⟨⟨c0, -, -⟩, f0, -, -, -⟩ := blk3 h
  cases l with
  | nil =>
    have e0 : tx [] = ⟨#[]⟩ := rfl
    rw [e0] at c0
    have H := Lib.hid h
    clear h
    go_enter Try.func46, Try.ntmps46
    go_wp2
    go_ret
    exact ⟨rfl, H.out, ⟨rfl, rfl, rfl, Nat.le_refl _, fun _ _ _ => rfl⟩⟩
  | cons c r =>
    have HB : Hid (Rdw (W.setCell ⟨g, 0, none⟩ (.string (tx r))) g r n b ∧ Turned g (g + 1) W (W.setCell ⟨g, 0, none⟩ (.string (tx r)))) := ⟨h.put0 r, turned_set g 0 _⟩
    obtain ⟨S, hS⟩ : ∃ S, S = tx (c :: r) := ⟨_, rfl⟩
    have s1 : S.size = r.length + 1 := by rw [hS, tx_size]; rfl
    have s2 : S[0]? = some c := by rw [hS]; exact tx_head c r
    have s3 : S.extract 1 (r.length + 1) = tx r := by rw [hS]; exact tx_tail c r
    have s4 : S.toList.isEmpty = false := by rw [ByteArray.toList_eq, hS]; rfl
    rw [← hS] at c0
    have hn : r.length + 1 < 4611686018427387904 := by simpa using hl
    have s0 : Hid (∀ h : 0 < S.size, S[0] = c) := fun h => by have := getElem?_pos S 0 h; rw [s2] at this; injection this with this; exact this.symm
    generalize r.length = m at *
    clear h hS hl
    go_enter Try.func46, Try.ntmps46
    go_wp2
    go_ret
    exact ⟨by simp [hd, s0.out], HB.out.1, HB.out.2⟩

set_option maxRecDepth 100000 in
theorem expect_any (g n : Nat) (l : List UInt8) (b : Bool) (c : Nat) (W : World) (h : Rdw W g l n b) (hl : l.length < 4611686018427387904) :
    Calls Try.prog 44 #[.pointer (some ⟨g, 0, none⟩), .int .u8 (c : Int)] W fun e w' => e = .returned (.tuple #[]) ∧ Rdw w' g l.tail n (hd l != c || b) ∧ Turned g (g + 1) W w' := by
  have T := Lib.hid (take_any g n l b W h hl)
  clear h
  go_enter Try.func44, Try.ntmps44
  go_wp2_with fail
  with_reducible refine T.out.mono ?_
  rintro e w1 ⟨rfl, hr, ht⟩
  obtain ⟨⟨-, -, c2⟩, -, -, f2, hg⟩ := blk3 hr
  have HR := Lib.hid hr
  have HT := Lib.hid ht
  clear hr ht
  by_cases hc : hd l = c
  · have q1 : ((hd l : Int) != (c : Int)) = false := by rw [hc]; simp
    have HB : Hid ((hd l != c || b) = b) := by unfold Hid; rw [hc]; simp
    have HX : Hid (Rdw (w1.setCell ⟨g, 2, none⟩ (.bool b)) g l.tail n (hd l != c || b) ∧ Turned g (g + 1) W (w1.setCell ⟨g, 2, none⟩ (.bool b))) := by
      rw [HB.out]; exact ⟨HR.out.put2 b, HT.out.trans (turned_set g 2 _)⟩
    clear hc
    go_wp2
    go_end0
    exact ⟨rfl, HX.out.1, HX.out.2⟩
  · have q1 : ((hd l : Int) != (c : Int)) = true := by rw [bne_iff_ne]; omega
    have HB : Hid ((hd l != c || b) = true) := by unfold Hid; rw [bne_iff_ne.2 hc]; rfl
    have HX : Hid (Rdw (w1.setCell ⟨g, 2, none⟩ (.bool true)) g l.tail n (hd l != c || b) ∧ Turned g (g + 1) W (w1.setCell ⟨g, 2, none⟩ (.bool true))) := by
      rw [HB.out]; exact ⟨HR.out.put2 true, HT.out.trans (turned_set g 2 _)⟩
    clear hc
    go_wp2
    go_end0
    exact ⟨rfl, HX.out.1, HX.out.2⟩

set_option maxRecDepth 100000 in
theorem liteHasPrefix_any (l : List UInt8) (W : World) (hl : l.length < 4611686018427387904) :
    Calls Try.prog 45 #[.string (tx l), .string ⟨#[46]⟩] W fun e w' => e = .returned (.bool (hd l == 46)) ∧ w' = W := by
  cases l with
  | nil =>
    have e0 : tx [] = ⟨#[]⟩ := rfl
    rw [e0]
    go_enter Try.func45, Try.ntmps45
    go_wp2
    go_ret
    exact ⟨rfl, rfl⟩
  | cons c r =>
    obtain ⟨S, hS⟩ : ∃ S, S = tx (c :: r) := ⟨_, rfl⟩
    have s1 : S.size = r.length + 1 := by rw [hS, tx_size]; rfl
    have s5 : S.extract 0 1 = tx [c] := by
      rw [hS]; apply ByteArray.ext; simp [tx, ByteArray.data_extract]
    have HE : Hid (((tx [c]).toList == [46]) = (hd (c :: r) == 46)) := by
      unfold Hid
      rw [ByteArray.toList_eq, Bool.eq_iff_iff, beq_iff_eq, beq_iff_eq]
      show [c] = [46] ↔ c.toNat = 46
      constructor
      · intro h
        injection h with h
        rw [h]; rfl
      · intro h
        have : c = 46 := UInt8.toNat_inj.1 h
        rw [this]
    rw [← hS]
    have hn : r.length + 1 < 4611686018427387904 := by simpa using hl
    generalize tx [c] = C at *
    generalize r.length = m at *
    clear hS hl
    go_enter Try.func45, Try.ntmps45
    go_wp2
    go_ret
    exact ⟨ret_bool HE.out, rfl⟩
set_option maxRecDepth 100000 in
theorem HasPrefix_any (l : List UInt8) (W : World) (hl : l.length < 4611686018427387904) :
    Calls Try.prog 43 #[.string (tx l), .string ⟨#[46]⟩] W fun e w' => e = .returned (.bool (hd l == 46)) ∧ w' = W := by
  have T := Lib.hid (liteHasPrefix_any l W hl)
  clear hl
  go_enter Try.func43, Try.ntmps43
  go_wp2_with fail
  with_reducible refine T.out.mono ?_
  rintro e w' ⟨rfl, rfl⟩
  go_wp2
  go_ret
  exact ⟨rfl, rfl⟩
theorem expect_46 (g n : Nat) (l : List UInt8) (b : Bool) (W : World) (h : Rdw W g l n b) (hl : l.length < 4611686018427387904) :
    Calls Try.prog 44 #[.pointer (some ⟨g, 0, none⟩), .int .u8 46] W fun e w' => e = .returned (.tuple #[]) ∧ Rdw w' g l.tail n (hd l != 46 || b) ∧ Turned g (g + 1) W w' := expect_any g n l b 46 W h hl
theorem expect_40 (g n : Nat) (l : List UInt8) (b : Bool) (W : World) (h : Rdw W g l n b) (hl : l.length < 4611686018427387904) :
    Calls Try.prog 44 #[.pointer (some ⟨g, 0, none⟩), .int .u8 40] W fun e w' => e = .returned (.tuple #[]) ∧ Rdw w' g l.tail n (hd l != 40 || b) ∧ Turned g (g + 1) W w' := expect_any g n l b 40 W h hl
theorem expect_41 (g n : Nat) (l : List UInt8) (b : Bool) (W : World) (h : Rdw W g l n b) (hl : l.length < 4611686018427387904) :
    Calls Try.prog 44 #[.pointer (some ⟨g, 0, none⟩), .int .u8 41] W fun e w' => e = .returned (.tuple #[]) ∧ Rdw w' g l.tail n (hd l != 41 || b) ∧ Turned g (g + 1) W w' := expect_any g n l b 41 W h hl
end Go.Proofs.Ytcgpfdknadijlaa

/- The program's head, read as lists of signs: three facts of the whole program that every row of this seat asks. -/
import Derived.Test.YtcgpfdknadijlaaRows
import Derived.ProofKit
namespace Go.Proofs.Ytcgpfdknadijlaa
open Go.RowKit
def head1 : List Char := [104, 97, 114, 110, 101, 115, 115].map Char.ofNat
def head2 : List Char := [98, 99, 102, 53, 99, 101, 55, 51, 55, 52, 48, 99, 51, 101, 102, 49, 99, 50, 49, 99, 57, 49, 97, 50, 55, 55, 100, 48, 49, 52, 55, 57, 100, 102, 55, 57, 98, 99, 101, 55, 49, 102, 56, 52, 99, 56, 55, 50, 100, 56, 51, 48, 99, 50, 48, 50, 100, 98, 56, 55, 49, 52, 54, 57].map Char.ofNat
def head3 : List Char := [99, 117, 116].map Char.ofNat
def head4 : List Char := [97, 116, 32, 108, 111, 111, 112, 46, 101, 120, 97, 109, 112, 108, 101, 47, 113, 117, 101, 115, 116, 105, 111, 110, 103, 97, 109, 101, 115, 47, 108, 97, 119, 115, 46, 70, 110, 66, 101, 115, 116, 71, 117, 101, 115, 115, 101, 115, 32, 108, 111, 111, 112, 46, 101, 120, 97, 109, 112, 108, 101, 47, 113, 117, 101, 115, 116, 105, 111, 110, 103, 97, 109, 101, 115, 47, 108, 97, 119, 115, 46, 70, 110, 78, 101, 101, 100, 115, 79, 102, 32, 108, 111, 111, 112, 46, 101, 120, 97, 109, 112, 108, 101, 47, 113, 117, 101, 115, 116, 105, 111, 110, 103, 97, 109, 101, 115, 47, 108, 97, 119, 115, 46, 70, 110, 80, 97, 105, 100, 70, 111, 114].map Char.ofNat
theorem words_cut (r : List Char) : ∀ w : List Char, (∀ c ∈ w, c ≠ Char.ofNat 32) → wordsSigns (w ++ Char.ofNat 32 :: r) = w :: wordsSigns r
  | [], _ => rfl
  | c :: w, h => by
    have ih := words_cut r w fun x hx => h x (by simp [hx])
    have hc := h c (by simp)
    rw [List.cons_append]
    conv => lhs; unfold wordsSigns
    split
    · rename_i e; cases e
    · rename_i e; injection e with e1 e2; exact absurd e1 hc
    · rename_i e; injection e with e1 e2; subst e1; subst e2; rw [ih]
theorem head_text : Try.prog.initOrder = String.ofList (head1 ++ Char.ofNat 32 :: (head2 ++ Char.ofNat 32 :: (head3 ++ Char.ofNat 32 :: head4))) := by kernel_rfl
theorem head_words : wordsSigns Try.prog.initOrder.toList = head1 :: head2 :: head3 :: wordsSigns head4 := by
  rw [head_text, String.toList_ofList, words_cut _ head1 (by decide), words_cut _ head2 (by decide), words_cut _ head3 (by decide)]
theorem head_behind (r : List (List Char)) : behindMainWord (head1 :: head2 :: head3 :: r) = head3 :: r := by kernel_rfl
theorem head_strip (r : List (List Char)) : stripLifts liftWords (head3 :: r) = ([], head3 :: r) := by kernel_rfl
theorem head_at : behindMainWord (wordsSigns Try.prog.initOrder.toList) = head3 :: wordsSigns head4 := by rw [head_words, head_behind]
theorem make_of (P : Program) (r : List (List Char)) (h : behindMainWord (wordsSigns P.initOrder.toList) = head3 :: r) : P.make = some .cut := by
  unfold Program.make
  rw [h]
  dsimp only
  have e1 : (head3 == "gc".toList) = false := by kernel_rfl
  have e2 : (head3 == "spec".toList) = false := by kernel_rfl
  have e3 : (head3 == "cut".toList) = true := by kernel_rfl
  rw [e1, e2, e3]
  rfl
theorem lifts_of (P : Program) (r : List (List Char)) (h : behindMainWord (wordsSigns P.initOrder.toList) = head3 :: r) : P.headLifts = [] := by
  unfold Program.headLifts
  rw [h, head_strip]
  simp
theorem liftsFinal_of (P : Program) (r : List (List Char)) (h : behindMainWord (wordsSigns P.initOrder.toList) = head3 :: r) : P.liftsFinal = false := by
  unfold Program.liftsFinal
  rw [h, lifts_of P r h]
  have e1 : ((head3 :: r).head? == some "carried".toList) = false := by kernel_rfl
  dsimp only
  rw [e1]
  rfl
theorem mayEnter_of (P : Program) (r : List (List Char)) (h : behindMainWord (wordsSigns P.initOrder.toList) = head3 :: r) (h1 : P.laysLater = false) (h2 : P.bearsReflect = false) (h3 : P.doorFits [] = true) : P.mayEnter = true := by
  unfold Program.mayEnter
  rw [h]
  dsimp only
  rw [head_strip]
  dsimp only
  have e4 : ((head3 :: r).head? == some "cut".toList) = true := by kernel_rfl
  have e5 : (List.contains ([] : List String) "reflectrows") = false := rfl
  have e6 : (List.contains ([] : List String) "leanrows") = false := rfl
  rw [e4, h1, h2, h3, e5, e6]
  simp only [Bool.not_false, Bool.or_true, Bool.and_true]
theorem head_mayEnter : Try.prog.mayEnter = true := mayEnter_of Try.prog _ head_at (by kernel_rfl) (by kernel_rfl) (by kernel_rfl)
theorem head_liftsFinal : Try.prog.liftsFinal = false := liftsFinal_of Try.prog _ head_at
theorem head_make : Try.prog.make = some .cut := make_of Try.prog _ head_at
end Go.Proofs.Ytcgpfdknadijlaa

/- Sorting by insertion: the plain words. -/
import Derived.Test.YtdpijiccolbljaaClone
import Derived.Test.YtdpijiccolbljaaOpenP
namespace Go.Proofs.Ytdpijiccolbljaa
open Go.RowKit

/-- a laid into s before the place j. -/
def insAt (s : List Nat) (a j : Nat) : List Nat := s.take j ++ a :: s.drop j
theorem length_insAt (s : List Nat) (a j : Nat) : (insAt s a j).length = s.length + 1 := by
  have := List.take_append_drop j s
  have h2 := congrArg List.length this
  simp only [List.length_append] at h2
  simp only [insAt, List.length_append, List.length_cons]; omega
def Srt (s : List Nat) : Prop := s.Pairwise (· ≤ ·)
theorem length_insN (a : Nat) : ∀ s, (insN a s).length = s.length + 1
  | [] => rfl
  | b :: l => by
    rw [insN]
    cases Nat.ble b a
    · rfl
    · rw [cond_true, List.length_cons, length_insN a l]; rfl
theorem mem_insN {a x : Nat} : ∀ {s}, x ∈ insN a s ↔ x = a ∨ x ∈ s
  | [] => by simp [insN]
  | b :: l => by
    rw [insN]
    cases Nat.ble b a
    · simp
    · rw [cond_true, List.mem_cons, mem_insN, List.mem_cons]
      exact ⟨fun h => by rcases h with h | h | h <;> simp [h], fun h => by rcases h with h | h | h <;> simp [h]⟩
theorem insN_cons (a b : Nat) (l : List Nat) : insN a (b :: l) = if b ≤ a then b :: insN a l else a :: b :: l := by
  rw [insN]
  by_cases h : b ≤ a
  · rw [if_pos h, Nat.ble_eq_true_of_le h]; rfl
  · have e : Nat.ble b a = false := by rw [Bool.eq_false_iff]; exact fun h2 => h (Nat.le_of_ble_eq_true h2)
    rw [if_neg h, e]; rfl
theorem srt_insN {a : Nat} : ∀ {s}, Srt s → Srt (insN a s)
  | [], _ => by simp [insN, Srt]
  | b :: l, h => by
    unfold Srt at h ⊢
    rw [List.pairwise_cons] at h
    rw [insN_cons]
    split
    · rename_i hb
      rw [List.pairwise_cons]
      refine ⟨fun x hx => ?_, srt_insN h.2⟩
      rcases mem_insN.1 hx with rfl | hx
      · exact hb
      · exact h.1 x hx
    · rename_i hb
      rw [List.pairwise_cons, List.pairwise_cons]
      refine ⟨fun x hx => ?_, h⟩
      rcases List.mem_cons.1 hx with rfl | hx
      · omega
      · have := h.1 x hx; omega
theorem insAt_end {a : Nat} : ∀ {s : List Nat} {j : Nat}, Srt s → j ≤ s.length → (∀ x ∈ s.drop j, a < x) → (j = 0 ∨ nx s (j - 1) ≤ a) → insAt s a j = insN a s
  | [], j, _, _, _, _ => by simp [insAt, insN]
  | b :: l, 0, _, _, h2, _ => by
    have := h2 b (by simp)
    rw [insN_cons, if_neg (by omega)]; rfl
  | b :: l, j + 1, h, hj, h2, h3 => by
    unfold Srt at h
    rw [List.pairwise_cons] at h
    have h3' : nx (b :: l) j ≤ a := by rcases h3 with h3 | h3; (omega); exact h3
    have hjl : j ≤ l.length := by simpa using hj
    have hb : b ≤ a := by
      cases j with
      | zero => exact h3'
      | succ j => exact Nat.le_trans (h.1 _ (nx_mem (by omega))) h3'
    have ih := insAt_end (a := a) (s := l) (j := j) h.2 hjl (fun x hx => h2 x hx) (by
      cases j with
      | zero => exact .inl rfl
      | succ j => exact .inr h3')
    rw [insN_cons, if_pos hb, ← ih]; rfl
theorem srtN_snoc (a : Nat) : ∀ (l s : List Nat), srtN s (l ++ [a]) = insN a (srtN s l)
  | [], _ => rfl
  | b :: l, s => srtN_snoc a l (insN b s)
theorem srt_srtN : ∀ (l s : List Nat), Srt s → Srt (srtN s l)
  | [], _, h => h
  | b :: l, s, h => srt_srtN l (insN b s) (srt_insN h)
theorem length_srtN : ∀ (l s : List Nat), (srtN s l).length = s.length + l.length
  | [], s => by simp [srtN]
  | b :: l, s => by rw [srtN, length_srtN l, length_insN]; simp; omega
theorem takeN_snoc (us : List Nat) (k : Nat) (h : k < us.length) : us.take (k + 1) = us.take k ++ [nx us k] := by
  rw [List.take_add_one, List.getElem?_eq_getElem h, nx_getD]; simp [List.getD, List.getElem?_eq_getElem h]
theorem dropN_cons (us : List Nat) (k : Nat) (h : k < us.length) : us.drop k = nx us k :: us.drop (k + 1) := by
  rw [List.drop_eq_getElem_cons h, nx_getD]; simp [List.getD, List.getElem?_eq_getElem h]

/-- What is sorted of us when i are: sorted, and the rest. -/
def srtK (us : List Nat) (i : Nat) : List Nat := srtN [] (us.take i)
theorem length_srtK (us : List Nat) (i : Nat) (h : i ≤ us.length) : (srtK us i).length = i := by unfold srtK; rw [length_srtN]; simp; omega
theorem srt_srtK (us : List Nat) (i : Nat) : Srt (srtK us i) := srt_srtN _ _ List.Pairwise.nil
theorem srtK_succ (us : List Nat) (i : Nat) (h : i < us.length) : srtK us (i + 1) = insN (nx us i) (srtK us i) := by unfold srtK; rw [takeN_snoc us i h, srtN_snoc]
theorem srtK_all (us : List Nat) : srtK us us.length = srtN [] us := by unfold srtK; rw [List.take_length]
theorem srtK_one (us : List Nat) (h : 0 < us.length) : srtK us 1 ++ us.drop 1 = us := by
  rw [srtK_succ us 0 h]
  have := dropN_cons us 0 h
  show insN (nx us 0) [] ++ _ = _
  rw [List.drop_zero] at this
  conv => rhs; rw [this]
  rfl

/-- The row in the round i when the number of the place i has come to the place j. -/
def rowAt (us : List Nat) (i j : Nat) : List Nat := insAt (srtK us i) (nx us i) j ++ us.drop (i + 1)
theorem length_rowAt (us : List Nat) (i j : Nat) (h : i < us.length) : (rowAt us i j).length = us.length := by
  unfold rowAt; rw [List.length_append, length_insAt, length_srtK us i (by omega), List.length_drop]; omega
theorem rowAt_start (us : List Nat) (i : Nat) (h : i < us.length) : rowAt us i i = srtK us i ++ us.drop i := by
  have hl := length_srtK us i (by omega)
  unfold rowAt insAt
  rw [List.take_of_length_le (by omega), List.drop_of_length_le (by omega), dropN_cons us i h]; simp
theorem rowAt_here (us : List Nat) (i j : Nat) (h : i < us.length) (hj : j ≤ i) : nx (rowAt us i j) j = nx us i := by
  have hl := length_srtK us i (by omega)
  have h1 : ((srtK us i).take j).length = j := by rw [List.length_take]; omega
  unfold rowAt insAt
  rw [nx_append, if_pos (by rw [List.length_append, List.length_cons]; omega), nx_append, if_neg (by omega), h1, Nat.sub_self]; rfl
theorem nx_take (s : List Nat) (j k : Nat) (h : k < j) : nx (s.take j) k = nx s k := by
  rw [nx_getD, nx_getD]; simp only [List.getD, List.getElem?_take, if_pos h]
theorem rowAt_before (us : List Nat) (i j : Nat) (h : i < us.length) (hj : j < i) : nx (rowAt us i (j + 1)) j = nx (srtK us i) j := by
  have hl := length_srtK us i (by omega)
  have h1 : ((srtK us i).take (j + 1)).length = j + 1 := by rw [List.length_take]; omega
  unfold rowAt insAt
  rw [nx_append, if_pos (by rw [List.length_append]; omega), nx_append, if_pos (by omega), nx_take _ _ _ (by omega)]
theorem rowAt_swap (us : List Nat) (i j : Nat) (h : i < us.length) (hj : j < i) : ((rowAt us i (j + 1)).set (j + 1) (nx (srtK us i) j)).set j (nx us i) = rowAt us i j := by
  have hl := length_srtK us i (by omega)
  unfold rowAt insAt
  generalize srtK us i = s at *
  generalize nx us i = a
  have h1 : (s.take j).length = j := by rw [List.length_take]; omega
  rw [takeN_snoc s j (by omega), dropN_cons s j (by omega)]
  generalize nx s j = x
  generalize s.drop (j + 1) = d
  generalize us.drop (i + 1) = r
  generalize s.take j = t at *
  subst h1
  have e1 : (t ++ [x] ++ a :: d ++ r) = t ++ x :: a :: (d ++ r) := by simp
  have e2 : (t ++ a :: x :: d ++ r) = t ++ a :: x :: (d ++ r) := by simp
  rw [e1, e2, List.set_append_right _ _ (by omega), show t.length + 1 - t.length = 1 by omega, List.set_append_right _ _ (by omega), Nat.sub_self]
  rfl
theorem rowAt_end (us : List Nat) (i j : Nat) (h : i < us.length) (hj : j ≤ i) (h2 : ∀ x ∈ (srtK us i).drop j, nx us i < x) (h3 : j = 0 ∨ nx (srtK us i) (j - 1) ≤ nx us i) : rowAt us i j = srtK us (i + 1) ++ us.drop (i + 1) := by
  unfold rowAt
  rw [insAt_end (srt_srtK us i) (by rw [length_srtK us i (by omega)]; exact hj) h2 h3, srtK_succ us i h]
theorem drop_more (us : List Nat) (i j : Nat) (h : i < us.length) (hj : j < i) (h2 : ∀ x ∈ (srtK us i).drop (j + 1), nx us i < x) (h3 : nx us i < nx (srtK us i) j) : ∀ x ∈ (srtK us i).drop j, nx us i < x := by
  have hl := length_srtK us i (by omega)
  rw [dropN_cons _ j (by omega)]
  intro x hx
  rcases List.mem_cons.1 hx with rfl | hx
  · exact h3
  · exact h2 x hx
end Go.Proofs.Ytdpijiccolbljaa

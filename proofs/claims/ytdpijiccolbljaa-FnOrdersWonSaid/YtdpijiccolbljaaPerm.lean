/- Orders of a few numbers: plain words, and how what is tried of all orders of at most seven holds of each. -/
import Derived.Test.YtdpijiccolbljaaBase
import Derived.ProofKit
namespace Go.Proofs.Ytdpijiccolbljaa
open Go.RowKit

/-- The number in the box i. -/
def nx : List Nat → Nat → Nat
  | [], _ => 0
  | a :: _, 0 => a
  | _ :: l, i + 1 => nx l i
/-- The i-th digit of a number, eight to one. -/
def nxC (c i : Nat) : Nat := Nat.land (Nat.shiftRight c (Nat.mul 3 i)) 7
def allN (P : Nat → Bool) (n : Nat) : Bool := Nat.rec (motive := fun _ => Bool) true (fun k s => cond s (P k) false) n
def allL (P : Nat → Bool) : List Nat → Bool
  | [] => true
  | a :: l => cond (P a) (allL P l) false
def hasN (k : Nat) : List Nat → Bool
  | [] => false
  | a :: l => cond (Nat.beq a k) true (hasN k l)
def lenN : List Nat → Nat
  | [] => 0
  | _ :: l => Nat.add (lenN l) 1
def sumN : List Nat → Nat
  | [] => 0
  | a :: l => Nat.add a (sumN l)
def lastN : List Nat → Nat
  | [] => 0
  | a :: l => match l with
    | [] => a
    | _ :: _ => lastN l
def eqN : List Nat → List Nat → Bool
  | [], [] => true
  | a :: l, b :: m => cond (Nat.beq a b) (eqN l m) false
  | _, _ => false
def minN : List Nat → Nat → Nat
  | [], d => d
  | a :: l, d => cond (Nat.ble d a) (minN l d) (minN l a)
/-- P holds of all numbers whose digits are those of c and f more, each below n and not among pre. -/
def allC (n : Nat) (P : Nat → Bool) (f : Nat) : Nat → List Nat → Nat → Bool :=
  Nat.rec (motive := fun _ => Nat → List Nat → Nat → Bool) (fun _ _ c => P c) (fun _ ih pos pre c => allN (fun k => cond (hasN k pre) true (ih (Nat.add pos 1) (k :: pre) (Nat.add c (Nat.mul k (Nat.pow 8 pos))))) n) f
/-- The boxes that are opened from a on, until the one that holds p. -/
def orbG (g : Nat → Nat) (p f : Nat) : Nat → List Nat := Nat.rec (motive := fun _ => Nat → List Nat) (fun _ => []) (fun _ ih a => a :: cond (Nat.beq (g a) p) [] (ih (g a))) f
def closG (g : Nat → Nat) (n p f : Nat) : Nat → Bool := Nat.rec (motive := fun _ => Nat → Bool) (fun _ => false) (fun _ ih a => cond (Nat.ble (Nat.succ a) n) (cond (Nat.beq (g a) p) true (ih (g a))) false) f
/-- How long the circles are, in the order of their least boxes, of the first k boxes. -/
def circK (g : Nat → Nat) (k : Nat) : List Nat := Nat.rec (motive := fun _ => List Nat) [] (fun k s => cond (Nat.beq (minN (orbG g k 7 k) k) k) (s ++ [lenN (orbG g k 7 k)]) s) k
def insN (a : Nat) : List Nat → List Nat
  | [] => [a]
  | b :: l => cond (Nat.ble b a) (b :: insN a l) (a :: b :: l)
def srtN : List Nat → List Nat → List Nat
  | s, [] => s
  | s, a :: l => srtN (insN a s) l
def circG (g : Nat → Nat) (n : Nat) : List Nat := srtN [] (circK g n)
def longG (g : Nat → Nat) (n : Nat) : Nat := lastN (circG g n)
def exG (g : Nat → Nat) (a b i : Nat) : Nat := cond (Nat.beq b i) (g a) (cond (Nat.beq a i) (g b) (g i))
def invG (g : Nat → Nat) (n i : Nat) : Nat := Nat.rec (motive := fun _ => Nat) 0 (fun k s => cond (Nat.beq (g k) i) k s) n
/-- 1 if k is the least of its circle, else 0. -/
def mnG (g : Nat → Nat) (k f : Nat) : Nat → Nat := Nat.rec (motive := fun _ => Nat → Nat) (fun _ => 0) (fun _ ih a => cond (Nat.ble a k) (cond (Nat.beq a k) 1 0) (ih (g a))) f
def cnG (g : Nat → Nat) (n : Nat) : Nat := Nat.rec (motive := fun _ => Nat) 0 (fun k s => Nat.add (mnG g k 7 (g k)) s) n
def witG (g : Nat → Nat) (m n : Nat) : Nat := Nat.rec (motive := fun _ => Nat) 0 (fun k s => cond (Nat.beq (lenN (orbG g k 7 k)) m) k s) n
def chkO (g : Nat → Nat) (p L : Nat) : List Nat → List Nat → Bool
  | _, [] => true
  | pre, q :: r => cond (hasN q pre) false (cond (Nat.beq (lenN (orbG g q 7 q)) L) (cond (hasN p (orbG g q 7 q)) (cond (match r with | [] => Nat.beq (g q) p | _ :: _ => cond (Nat.beq (g q) p) false true) (chkO g p L (q :: pre) r) false) false) false)

/-! What is tried of all orders. -/
def goodA (n : Nat) (g : Nat → Nat) : Bool := allN (fun p => cond (closG g n p 7 p) (chkO g p (lenN (orbG g p 7 p)) [] (orbG g p 7 p)) false) n
def goodC (n : Nat) (g : Nat → Nat) : Bool :=
  cond (Nat.beq (sumN (circG g n)) n) (cond (eqN (circG (invG g n) n) (circG g n)) (allN (fun j => Nat.beq (invG g n (g j)) j) n) false) false
def goodL (n : Nat) (g : Nat → Nat) : Bool :=
  cond (allN (fun p => Nat.ble (lenN (orbG g p 7 p)) (longG g n)) n) (cond (Nat.beq (lenN (orbG g (witG g (longG g n) n) 7 (witG g (longG g n) n))) (longG g n)) (cond (allL (fun x => Nat.ble x (longG g n)) (circG g n)) (cond (hasN (longG g n) (circG g n)) (Nat.ble (Nat.succ (witG g (longG g n) n)) n) false) false) false) false
def goodH (n : Nat) (g : Nat → Nat) : Bool :=
  allN (fun x => cond (Nat.beq (witG g (longG g n) n) x) (cond (Nat.ble (longG (exG g (Nat.min x (nx (orbG g x 7 x) (Nat.div (longG g n) 2))) (Nat.max x (nx (orbG g x 7 x) (Nat.div (longG g n) 2)))) n) (Nat.div (Nat.add n 1) 2)) (Nat.ble (Nat.succ (nx (orbG g x 7 x) (Nat.div (longG g n) 2))) n) false) true) n
def goodE (n : Nat) (g : Nat → Nat) : Bool := Nat.beq (cnG g n) (lenN (circK g n))
/-- With two boxes exchanged there is one circle more, or one fewer. -/
def goodX (n : Nat) (g : Nat → Nat) : Bool :=
  allN (fun b => allN (fun a => cond (Nat.beq (cnG (exG g a b) n) (Nat.add 1 (cnG g n))) true (Nat.beq (Nat.add 1 (cnG (exG g a b) n)) (cnG g n))) b) n

theorem allN_succ (P : Nat → Bool) (n : Nat) : allN P (n + 1) = cond (allN P n) (P n) false := rfl
theorem cond_and {a b : Bool} (h : cond a b false = true) : a = true ∧ b = true := by cases a <;> simp_all
theorem cond_mk {a b : Bool} (h : a = true) (k : b = true) : cond a b false = true := by rw [h, k]; rfl
theorem allN_out {P : Nat → Bool} : ∀ {n : Nat}, allN P n = true → ∀ k, k < n → P k = true
  | 0, _, k, h => absurd h (Nat.not_lt_zero _)
  | n + 1, h, k, hk => by
    rw [allN_succ] at h
    obtain ⟨h0, h2⟩ := cond_and h
    rcases Nat.lt_or_ge k n with h1 | h1
    · exact allN_out h0 k h1
    · obtain rfl : k = n := by omega
      exact h2
theorem allN_in {P : Nat → Bool} : ∀ {n : Nat}, (∀ k, k < n → P k = true) → allN P n = true
  | 0, _ => rfl
  | n + 1, h => by
    rw [allN_succ]
    exact cond_mk (allN_in fun k hk => h k (by omega)) (h n (by omega))
theorem hasN_iff (k : Nat) : ∀ l : List Nat, hasN k l = true ↔ k ∈ l
  | [] => by simp [hasN]
  | a :: l => by
    rw [hasN, List.mem_cons, ← hasN_iff k l]
    cases h : Nat.beq a k
    · have : ¬ k = a := fun e => by rw [e, Nat.beq_refl] at h; cases h
      simp [this]
    · simp [Nat.eq_of_beq_eq_true h]
theorem lenN_eq : ∀ l : List Nat, lenN l = l.length
  | [] => rfl
  | _ :: l => by show lenN l + 1 = _; rw [lenN_eq l]; rfl
theorem nx_getD : ∀ (ns : List Nat) (i : Nat), nx ns i = ns.getD i 0
  | [], i => by simp [nx]
  | a :: l, 0 => by simp [nx]
  | a :: l, i + 1 => by rw [nx, nx_getD l i]; simp
theorem nx_mem {ns : List Nat} {i : Nat} (h : i < ns.length) : nx ns i ∈ ns := by
  rw [nx_getD]; simp [List.getD, List.getElem?_eq_getElem h]
theorem nx_past {ns : List Nat} {i : Nat} (h : ns.length ≤ i) : nx ns i = 0 := by
  rw [nx_getD]; simp [List.getD, List.getElem?_eq_none h]
theorem nx_append (a b : List Nat) (i : Nat) : nx (a ++ b) i = if i < a.length then nx a i else nx b (i - a.length) := by
  simp only [nx_getD, List.getD, List.getElem?_append]
  split <;> rfl

theorem nxC_eq (c i : Nat) : nxC c i = c / 8 ^ i % 8 := by
  show (c >>> (3 * i)) &&& 7 = _
  rw [Nat.shiftRight_eq_div_pow, Nat.pow_mul]
  exact Nat.and_two_pow_sub_one_eq_mod (c / (2 ^ 3) ^ i) 3

theorem nxC_more {c pos k : Nat} (hc : c < 8 ^ pos) (hk : k < 8) (i : Nat) : nxC (c + k * 8 ^ pos) i = if i < pos then nxC c i else if i = pos then k else 0 := by
  rw [nxC_eq, nxC_eq]
  have hp : 0 < 8 ^ i := Nat.pow_pos (by omega)
  split
  · rename_i h
    have e : 8 ^ pos = 8 ^ i * (8 * 8 ^ (pos - i - 1)) := by
      rw [← Nat.pow_succ', ← Nat.pow_add]; congr 1; omega
    rw [e, ← Nat.mul_assoc, Nat.mul_comm k, Nat.mul_assoc, Nat.add_mul_div_left _ _ hp]
    have e2 : k * (8 * 8 ^ (pos - i - 1)) = 8 * (k * 8 ^ (pos - i - 1)) := by rw [Nat.mul_left_comm]
    rw [Nat.mul_left_comm, Nat.add_mul_mod_self_left]
  · rename_i h
    split
    · rename_i e; subst e
      rw [Nat.add_mul_div_right _ _ hp, Nat.div_eq_of_lt hc, Nat.zero_add, Nat.mod_eq_of_lt hk]
    · rename_i h2
      have : c + k * 8 ^ pos < 8 ^ i := by
        have h3 : 8 ^ (pos + 1) ≤ 8 ^ i := Nat.pow_le_pow_right (by omega) (by omega)
        have h4 : 8 ^ (pos + 1) = 8 * 8 ^ pos := by rw [Nat.pow_succ, Nat.mul_comm]
        have h5 : k * 8 ^ pos ≤ 7 * 8 ^ pos := Nat.mul_le_mul_right _ (by omega)
        omega
      rw [Nat.div_eq_of_lt this]

theorem allC_out (n : Nat) (hn : n ≤ 8) (P : Nat → Bool) : ∀ (f pos : Nat) (pre : List Nat) (c : Nat), allC n P f pos pre c = true → ∀ (p l : List Nat), p.length = pos → (∀ x, x ∈ pre ↔ x ∈ p) → c < 8 ^ pos → (∀ i, nxC c i = nx p i) → l.length = f → (p ++ l).Nodup → (∀ x ∈ l, x < n) →
    ∃ c', (∀ i, nxC c' i = nx (p ++ l) i) ∧ P c' = true
  | 0, pos, pre, c, h, p, l, _, _, _, hx, hl, _, _ => by
    obtain rfl := List.length_eq_zero_iff.1 hl
    exact ⟨c, by rw [List.append_nil]; exact hx, h⟩
  | f + 1, pos, pre, c, h, p, [], _, _, _, _, hl, _, _ => by simp at hl
  | f + 1, pos, pre, c, h, p, x :: l, hp, hm, hc, hx, hl, hd, hlt => by
    have hxn := hlt x (by simp)
    have h1 := allN_out (P := fun k => cond (hasN k pre) true (allC n P f (pos + 1) (k :: pre) (c + k * 8 ^ pos))) h x hxn
    have hn' : hasN x pre = false := by
      rw [Bool.eq_false_iff]
      intro h2
      rw [hasN_iff, hm] at h2
      rw [List.nodup_append] at hd
      exact hd.2.2 x h2 x (by simp) rfl
    simp only [hn', cond_false] at h1
    have := allC_out n hn P f (pos + 1) (x :: pre) _ h1 (p ++ [x]) l (by simp [hp]) (fun y => by simp [hm, or_comm]) (by
        have h5 : x * 8 ^ pos ≤ 7 * 8 ^ pos := Nat.mul_le_mul_right _ (by omega)
        rw [Nat.pow_succ]; omega) (fun i => by
        rw [nxC_more hc (by omega), nx_append, hp]
        split
        · exact hx i
        · rename_i h2
          split
          · rename_i e; subst e; simp [nx]
          · rename_i h3
            obtain ⟨d, hd'⟩ : ∃ d, i - pos = d + 1 := ⟨i - pos - 1, by omega⟩
            rw [hd']; rfl) (by simpa using hl) (by simpa using hd) (fun y hy => hlt y (by simp [hy]))
    simpa using this

/-- ns holds each number from 0 on and below its length once; there are one to seven. -/
structure Perm7 (ns : List Nat) : Prop where
  lo : 1 ≤ ns.length
  hi : ns.length ≤ 7
  nodup : ns.Nodup
  lt : ∀ x ∈ ns, x < ns.length

def tried (Q : Nat → (Nat → Nat) → Bool) (n : Nat) : Bool := allC n (fun c => Q n (nxC c)) n 0 [] 0
theorem Perm7.all {ns : List Nat} (h : Perm7 ns) {Q : Nat → (Nat → Nat) → Bool} (hQ : ∀ n, 1 ≤ n → n ≤ 7 → tried Q n = true) : Q ns.length (nx ns) = true := by
  obtain ⟨c, h1, h2⟩ := allC_out ns.length (by have := h.hi; omega) _ _ _ _ _ (hQ _ h.lo h.hi) [] ns rfl (fun _ => Iff.rfl) (by simp) (fun i => by rw [nxC_eq]; simp [nx]) rfl (by simpa using h.nodup) h.lt
  have e : nxC c = nx ns := funext h1
  rw [e] at h2
  exact h2
theorem allC_first (n : Nat) (P : Nat → Bool) (f : Nat) (h : ∀ k, k < n → allC n P f 1 [k] k = true) : allC n P (f + 1) 0 [] 0 = true := by
  have e : allC n P (f + 1) 0 [] 0 = allN (fun k => cond (hasN k []) true (allC n P f (Nat.add 0 1) (k :: []) (Nat.add 0 (Nat.mul k (Nat.pow 8 0))))) n := rfl
  rw [e]
  refine allN_in fun k hk => ?_
  have e2 : Nat.add 0 (Nat.mul k (Nat.pow 8 0)) = k := by show 0 + k * 8 ^ 0 = k; omega
  have e3 : hasN k [] = false := rfl
  rw [e2, e3]
  exact h k hk
/-- Seven: by the first number. -/
theorem tried7 {Q : Nat → (Nat → Nat) → Bool} (h : ∀ k, k < 7 → allC 7 (fun c => Q 7 (nxC c)) 6 1 [k] k = true) : tried Q 7 = true :=
  allC_first 7 (fun c => Q 7 (nxC c)) 6 h
theorem tried_all {Q : Nat → (Nat → Nat) → Bool} (h : allN (fun k => tried Q (Nat.add k 1)) 6 = true) (h7 : ∀ k, k < 7 → allC 7 (fun c => Q 7 (nxC c)) 6 1 [k] k = true) : ∀ n, 1 ≤ n → n ≤ 7 → tried Q n = true := by
  intro n h1 h2
  rcases Nat.lt_or_ge n 7 with hn | hn
  · obtain ⟨k, rfl⟩ : ∃ k, n = k + 1 := ⟨n - 1, by omega⟩
    exact allN_out h k (by omega)
  · obtain rfl : n = 7 := by omega
    exact tried7 h7
end Go.Proofs.Ytdpijiccolbljaa

/- The boxes that a person opens: the plain words. -/
import Derived.Test.YtdpijiccolbljaaBox
import Derived.Test.YtdpijiccolbljaaPermA
namespace Go.Proofs.Ytdpijiccolbljaa
open Go.RowKit

theorem orbG_succ (g : Nat → Nat) (p f a : Nat) : orbG g p (f + 1) a = a :: (if g a = p then [] else orbG g p f (g a)) := by
  show a :: cond (Nat.beq (g a) p) [] (orbG g p f (g a)) = _
  by_cases h : g a = p
  · rw [if_pos h, h, Nat.beq_refl]; rfl
  · have e : Nat.beq (g a) p = false := by rw [Bool.eq_false_iff]; exact fun h2 => h (Nat.eq_of_beq_eq_true h2)
    rw [if_neg h, e]; rfl
theorem closG_succ {g : Nat → Nat} {n p f a : Nat} (h : closG g n p (f + 1) a = true) : a < n ∧ (g a = p ∨ closG g n p f (g a) = true) := by
  have h1 : cond (Nat.ble (Nat.succ a) n) (cond (Nat.beq (g a) p) true (closG g n p f (g a))) false = true := h
  obtain ⟨h2, h3⟩ := cond_and h1
  refine ⟨Nat.le_of_ble_eq_true h2, ?_⟩
  cases h4 : Nat.beq (g a) p
  · rw [h4] at h3; exact .inr h3
  · exact .inl (Nat.eq_of_beq_eq_true h4)
theorem length_orbG (g : Nat → Nat) (p : Nat) : ∀ f a, (orbG g p f a).length ≤ f
  | 0, a => Nat.le_refl _
  | f + 1, a => by
    rw [orbG_succ]
    split
    · simp
    · have := length_orbG g p f (g a)
      simp; omega
theorem orbG_lt {g : Nat → Nat} {n p : Nat} : ∀ f a, closG g n p f a = true → ∀ x ∈ orbG g p f a, x < n
  | 0, a, h => by cases h
  | f + 1, a, h => by
    obtain ⟨h1, h2⟩ := closG_succ h
    rw [orbG_succ]
    intro x hx
    rcases List.mem_cons.1 hx with rfl | hx
    · exact h1
    · split at hx
      · cases hx
      · rename_i hne
        rcases h2 with h2 | h2
        · exact absurd h2 hne
        · exact orbG_lt f _ h2 x hx

/-- The boxes that the person p opens. -/
def orb (ns : List Nat) (p : Nat) : List Nat := orbG (nx ns) p 7 p
theorem Perm7.closed {ns : List Nat} (h : Perm7 ns) {p : Nat} (hp : p < ns.length) : closG (nx ns) ns.length p 7 p = true := (cond_and (allN_out h.ofA p hp)).1
theorem length_orb (ns : List Nat) (p : Nat) : (orb ns p).length ≤ 7 := length_orbG _ _ _ _
theorem orb_cons (ns : List Nat) (p : Nat) : ∃ l, orb ns p = p :: l := ⟨_, orbG_succ _ _ _ _⟩
theorem Perm7.orb_lt {ns : List Nat} (h : Perm7 ns) {p : Nat} (hp : p < ns.length) : ∀ x ∈ orb ns p, x < ns.length := orbG_lt _ _ (h.closed hp)
theorem Perm7.nx_lt {ns : List Nat} (h : Perm7 ns) {a : Nat} (ha : a < ns.length) : nx ns a < ns.length := h.lt _ (nx_mem ha)

/-- What is opened so far: pre and a; f steps at most are to come. -/
def OpSt (ns : List Nat) (p f : Nat) (pre : List Nat) (a : Nat) : Prop :=
  a < ns.length ∧ orb ns p = pre ++ a :: (if nx ns a = p then [] else orbG (nx ns) p f (nx ns a)) ∧ (nx ns a = p ∨ closG (nx ns) ns.length p f (nx ns a) = true)
theorem opSt_start {ns : List Nat} (h : Perm7 ns) {p : Nat} (hp : p < ns.length) : OpSt ns p 6 [] p := by
  obtain ⟨h1, h2⟩ := closG_succ (h.closed hp)
  exact ⟨h1, orbG_succ _ _ _ _, h2⟩
theorem opSt_next {ns : List Nat} {p f a : Nat} {pre : List Nat} (h : OpSt ns p f pre a) (hne : nx ns a ≠ p) : ∃ f', f = f' + 1 ∧ OpSt ns p f' (pre ++ [a]) (nx ns a) := by
  obtain ⟨h1, h2, h3⟩ := h
  rcases h3 with h3 | h3
  · exact absurd h3 hne
  · cases f with
    | zero => cases h3
    | succ f =>
      obtain ⟨h4, h5⟩ := closG_succ h3
      refine ⟨f, rfl, h4, ?_, h5⟩
      rw [h2, if_neg hne, orbG_succ]; simp
theorem opSt_end {ns : List Nat} {p f a : Nat} {pre : List Nat} (h : OpSt ns p f pre a) (he : nx ns a = p) : orb ns p = pre ++ [a] := by
  rw [h.2.1, if_pos he]
theorem opSt_len {ns : List Nat} {p f a : Nat} {pre : List Nat} (h : OpSt ns p f pre a) : pre.length ≤ 6 := by
  have := length_orb ns p
  rw [h.2.1] at this
  simp at this; omega

theorem rdN_out {w : World} {v : Value} {ns : List Nat} (h : Rd w v (iz ns)) : ∃ a cap, v = .slice a ns.length cap ∧ ns.length ≤ cap ∧ cap ≤ 9223372036854775807 := by
  obtain ⟨a, cap, rfl, h1, h2, -⟩ := h
  rw [length_iz] at h1 ⊢
  exact ⟨a, cap, rfl, h1, h2⟩
theorem rdN_at {w : World} {a : Option Addr} {n cap : Nat} {ns : List Nat} (h : Rd w (.slice a n cap) (iz ns)) (k : Nat) (hk : k < ns.length) :
    ∃ g off, a = some ⟨g, off, none⟩ ∧ g < w.heap.size ∧ w.cell? ⟨g, off + k, none⟩ = some (.int .i64 ((nx ns k : Nat) : Int)) := by
  obtain ⟨a', cap', e, h1, h2, h3⟩ := h
  injection e with e1 e2 e3
  subst e1
  rw [length_iz] at h3
  obtain ⟨g, off, rfl, hg, hc⟩ := h3 (by omega)
  refine ⟨g, off, rfl, hg, ?_⟩
  rw [hc k hk, getD_iz]
/-- An own slice of numbers, and one more. -/
theorem snoc_iz {w' : World} {lo : Nat} {v' : Value} {ns : List Nat} {a : Nat} (h : w'.ownsRow lo 3 1 v' (iz ns ++ [(a : Int)]).length ((iz ns ++ [(a : Int)]).map (Value.int .i64))) : w'.ownsRow lo 3 1 v' (iz (ns ++ [a])).length ((iz (ns ++ [a])).map (Value.int .i64)) := by
  rw [iz_append]; exact h
theorem own_one (w : World) (a : Nat) : (w.alloc (.cells #[.int .i64 (a : Int)] 3)).ownsRow w.heap.size 3 1 (.slice (some ⟨w.heap.size, 0, none⟩) 1 1) (iz ([] ++ [a])).length ((iz ([] ++ [a])).map (Value.int .i64)) :=
  World.ownsRow_lit w #[.int .i64 (a : Int)] 1 (Nat.le_refl _) (by decide) (by simp)
theorem own_two (w : World) (a b : Nat) : (w.alloc (.cells #[.int .i64 (a : Int), .int .i64 (b : Int)] 3)).ownsRow w.heap.size 3 1 (.slice (some ⟨w.heap.size, 0, none⟩) 2 2) (iz [a, b]).length ((iz [a, b]).map (Value.int .i64)) :=
  World.ownsRow_lit w #[.int .i64 (a : Int), .int .i64 (b : Int)] 2 (Nat.le_refl _) (by decide) (by simp)
theorem own_none (w : World) : (w.alloc (.cells #[] 3)).ownsRow w.heap.size 3 1 (.slice (some ⟨w.heap.size, 0, none⟩) 0 0) (iz []).length ((iz []).map (Value.int .i64)) :=
  World.ownsRow_lit w #[] 0 (Nat.le_refl _) (by decide) (by simp)
end Go.Proofs.Ytdpijiccolbljaa

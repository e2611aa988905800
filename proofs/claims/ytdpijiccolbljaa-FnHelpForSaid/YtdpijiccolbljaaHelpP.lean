/- The exchange that helps: the plain words. -/
import Derived.Test.YtdpijiccolbljaaExchP
import Derived.Test.YtdpijiccolbljaaLong
namespace Go.Proofs.Ytdpijiccolbljaa
open Go.RowKit

/-- The two boxes found so far, and how long the longest circle then is; 8 if there are none. -/
def stepH (ns : List Nat) (a b : Nat) (s : List Nat × Nat) : List Nat × Nat := if long (exch ns a b) < s.2 then ([a, b], long (exch ns a b)) else s
def rowH (ns : List Nat) (a : Nat) : Nat → List Nat × Nat → List Nat × Nat
  | 0, s => s
  | k + 1, s => stepH ns a (a + k) (rowH ns a k s)
def allH (ns : List Nat) : Nat → List Nat × Nat
  | 0 => ([], 8)
  | a + 1 => rowH ns a (ns.length - a) (allH ns a)
def InvH (ns : List Nat) (s : List Nat × Nat) : Prop := s = ([], 8) ∨ ∃ x y, x ≤ y ∧ y < ns.length ∧ s = ([x, y], long (exch ns x y))
theorem stepH_le (ns : List Nat) (a b : Nat) (s : List Nat × Nat) : (stepH ns a b s).2 ≤ s.2 ∧ (stepH ns a b s).2 ≤ long (exch ns a b) := by
  unfold stepH
  split
  · exact ⟨Nat.le_of_lt (by assumption), Nat.le_refl _⟩
  · exact ⟨Nat.le_refl _, by omega⟩
theorem stepH_inv {ns : List Nat} {a b : Nat} {s : List Nat × Nat} (h : InvH ns s) (hab : a ≤ b) (hb : b < ns.length) : InvH ns (stepH ns a b s) := by
  unfold stepH
  split
  · exact .inr ⟨a, b, hab, hb, rfl⟩
  · exact h
theorem rowH_inv {ns : List Nat} {a : Nat} {s : List Nat × Nat} (h : InvH ns s) : ∀ k, a + k ≤ ns.length → InvH ns (rowH ns a k s)
  | 0, _ => h
  | k + 1, hk => stepH_inv (rowH_inv h k (by omega)) (by omega) (by omega)
theorem allH_inv (ns : List Nat) : ∀ a, a ≤ ns.length → InvH ns (allH ns a)
  | 0, _ => .inl rfl
  | a + 1, h => rowH_inv (allH_inv ns a (by omega)) _ (by omega)
theorem rowH_le (ns : List Nat) (a : Nat) (s : List Nat × Nat) : ∀ k, (rowH ns a k s).2 ≤ s.2 ∧ ∀ j, j < k → (rowH ns a k s).2 ≤ long (exch ns a (a + j))
  | 0 => ⟨Nat.le_refl _, fun j hj => absurd hj (by omega)⟩
  | k + 1 => by
    have ih := rowH_le ns a s k
    have hs := stepH_le ns a (a + k) (rowH ns a k s)
    refine ⟨Nat.le_trans hs.1 ih.1, fun j hj => ?_⟩
    by_cases e : j = k
    · subst e; exact hs.2
    · exact Nat.le_trans hs.1 (ih.2 j (by omega))
theorem allH_le (ns : List Nat) : ∀ k, k ≤ ns.length → ∀ a b, a < k → a ≤ b → b < ns.length → (allH ns k).2 ≤ long (exch ns a b)
  | 0, _, a, b, h, _, _ => absurd h (by omega)
  | k + 1, hk, a, b, h, hab, hb => by
    have hr := rowH_le ns k (allH ns k) (ns.length - k)
    by_cases e : a = k
    · subst e
      have := hr.2 (b - a) (by omega)
      rw [show a + (b - a) = b by omega] at this
      exact this
    · exact Nat.le_trans hr.1 (allH_le ns k (by omega) a b (by omega) hab hb)
/-- The two boxes that HelpFor tells. -/
def helpL (ns : List Nat) : List Nat := (allH ns ns.length).1
theorem help_out {ns : List Nat} (h : Perm7 ns) : ∃ x y, x ≤ y ∧ y < ns.length ∧ allH ns ns.length = ([x, y], long (exch ns x y)) ∧ long (exch ns x y) ≤ 7 ∧ ∀ a b, a ≤ b → b < ns.length → long (exch ns x y) ≤ long (exch ns a b) := by
  have hle := allH_le ns ns.length (Nat.le_refl _)
  have h1 := h.lo
  rcases allH_inv ns ns.length (Nat.le_refl _) with h0 | ⟨x, y, hxy, hy, e⟩
  · exfalso
    have := hle 0 0 (by omega) (Nat.le_refl _) (by omega)
    rw [h0] at this
    have h2 := long_bd (exch_perm h (a := 0) (b := 0) (by omega) (by omega))
    simp at this; omega
  · refine ⟨x, y, hxy, hy, e, long_bd (exch_perm h (by omega) hy), fun a b hab hb => ?_⟩
    have := hle a b (by omega) hab hb
    rw [e] at this
    exact this
/-- There is an exchange that helps all. -/
theorem help_wit {ns : List Nat} (h : Perm7 ns) : ∃ a b, a ≤ b ∧ b < ns.length ∧ long (exch ns a b) ≤ (ns.length + 1) / 2 := by
  obtain ⟨h1, h2⟩ := cond_and h.ofL
  obtain ⟨h2, h3⟩ := cond_and h2
  obtain ⟨h3, h4⟩ := cond_and h3
  obtain ⟨h4, h5⟩ := cond_and h4
  have hx := Nat.le_of_ble_eq_true h5
  have hH := allN_out h.ofH _ hx
  rw [Nat.beq_refl, cond_true] at hH
  obtain ⟨h6, h7⟩ := cond_and hH
  have hy := Nat.le_of_ble_eq_true h7
  have hl := Nat.le_of_ble_eq_true h6
  generalize witG (nx ns) (longG (nx ns) ns.length) ns.length = x at *
  generalize nx (orbG (nx ns) x 7 x) (Nat.div (longG (nx ns) ns.length) 2) = y at *
  have ha : Nat.min x y < ns.length := Nat.lt_of_le_of_lt (Nat.min_le_left x y) hx
  have hb : Nat.max x y < ns.length := by
    rcases Nat.le_total x y with hxy | hxy
    · rw [show Nat.max x y = y from Nat.max_eq_right hxy]; exact hy
    · rw [show Nat.max x y = x from Nat.max_eq_left hxy]; exact hx
  refine ⟨Nat.min x y, Nat.max x y, Nat.le_trans (Nat.min_le_left x y) (Nat.le_max_left x y), hb, ?_⟩
  unfold long
  rw [length_exch, nx_exG ns _ _ ha hb]
  exact hl
theorem help_all {ns : List Nat} (h : Perm7 ns) : ∃ x y, x ≤ y ∧ y < ns.length ∧ helpL ns = [x, y] ∧ long (exch ns x y) ≤ (ns.length + 1) / 2 := by
  obtain ⟨x, y, h1, h2, h3, -, h4⟩ := help_out h
  obtain ⟨a, b, h5, h6, h7⟩ := help_wit h
  exact ⟨x, y, h1, h2, by unfold helpL; rw [h3], Nat.le_trans (h4 a b h5 h6) h7⟩
def helpI (zs : List Int) : List Int := bif boxB zs then iz (helpL (nz zs)) else []
theorem helpI_no {zs : List Int} (h : boxB zs = false) : helpI zs = [] := by unfold helpI; rw [h]; rfl
theorem helpI_iz {ns : List Nat} (h : Perm7 ns) : helpI (iz ns) = iz (allH ns ns.length).1 := by
  unfold helpI
  rw [perm_boxB h, cond_true, nz_iz]; rfl
theorem helpI_len (zs : List Int) : (helpI zs).length ≤ 2 := by
  rcases Bool.eq_false_or_eq_true (boxB zs) with h | h
  · obtain ⟨ns, rfl, hP⟩ := boxB_perm h
    obtain ⟨x, y, -, -, e, -⟩ := help_all hP
    rw [helpI_iz hP, length_iz]
    show (helpL ns).length ≤ 2
    rw [e]; simp
  · rw [helpI_no h]; simp
end Go.Proofs.Ytdpijiccolbljaa

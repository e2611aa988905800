/- Maps from runs to numbers. -/
import Derived.Test.YtcgpfdknadijlaaInts
import Derived.Test.YtcgpfdknadijlaaCoP
import Derived.Maps.Own
import Derived.Maps.Views
import Derived.Maps.OwnSet
import Derived.DeepKeys4
namespace Go.Proofs.Ytcgpfdknadijlaa
open Go.RowKit Go.Maps Go.WideMaps

theorem laidOutM : laidOutB Try.prog = true := by kernel_rfl
theorem rowRun : (43 : TypeId) < Try.prog.types.size := of_decide_eq_true (by kernel_rfl)
theorem lawRun : KeyLaw Try.prog 43 := deep_law_laid laidOutM (m := 2) (by omega) rowRun (by kernel_rfl) (by rw [Try.underlying43])
theorem keyedRun : Keyed Try.prog 43 := Keyed.of_law lawRun
theorem keyTypeRun : Try.prog.keyType 43 = true := by kernel_rfl
theorem zeroI (w : World) : (zeroValue 3).run Try.prog w = .ok (.int .i64 0) w := by kernel_rfl

/-- A run, as a value. -/
def rv (x y : Int) : Value := .agg #[.int .i64 x, .int .i64 y]
theorem wf64 {x : Int} (h : -9223372036854775808 ≤ x ∧ x ≤ 9223372036854775807) : (Lit.int .i64 x).wf = true := by
  have h1 : IntKind.i64.min = -9223372036854775808 := rfl
  have h2 : IntKind.i64.max = 9223372036854775807 := rfl
  simp [Lit.wf, h1, h2]; omega
theorem keyOf_rv {x y : Int} (hx : -9223372036854775808 ≤ x ∧ x ≤ 9223372036854775807) (hy : -9223372036854775808 ≤ y ∧ y ≤ 9223372036854775807) :
    keyOf Try.prog 43 (rv x y) = some (.string (keyBytes [.int .i64 x, .int .i64 y])) := by
  have h1 := wf64 hx
  have h2 := wf64 hy
  have hc : Try.prog.cellsOf 43 = 2 := by kernel_rfl
  have hi : Try.prog.cellsOf 3 = 1 := by kernel_rfl
  have hs : ∃ m, Try.prog.types.size = m + 1 := ⟨Try.prog.types.size - 1, by have h9 : (43 : Nat) < Try.prog.types.size := rowRun; omega⟩
  have hrow := rowRun
  obtain ⟨m, hm⟩ := hs
  rw [hm] at hrow
  unfold keyOf rv
  simp only [Try.underlying43]
  rw [if_pos (by simp [keyTypeRun, Value.formed, Try.underlying43, hc]), hm]
  unfold Program.keyLits
  simp only [Try.underlying43, Value.cells]
  rw [if_pos (by rw [hc]; exact ⟨rfl, by simp⟩)]
  have hm1 : ∃ m', m = m' + 1 := ⟨m - 1, by have h9 : (43 : Nat) < m + 1 := hrow; omega⟩
  obtain ⟨m', rfl⟩ := hm1
  simp [hi, Program.keyLits, Try.underlying3, h1, h2]

/-- Block b is a map from runs to numbers, of at most n entries; f says what it answers. -/
def MapF (w : World) (b n : Nat) (f : Int → Int → Int) : Prop :=
  ∃ D : DataW Unit, w.ownsMap Try.prog 43 (plainElem Try.prog 3) b n D ∧
    ∀ x y kl, keyOf Try.prog 43 (rv x y) = some kl → D.atKey kl (.lit (.int .i64 0)) = .lit (.int .i64 (f x y))
def updF (f : Int → Int → Int) (a b z : Int) : Int → Int → Int := fun x y => if x = a ∧ y = b then z else f x y
theorem updF_same (f : Int → Int → Int) (a b z : Int) : updF f a b z a b = z := by simp [updF]
theorem updF_other {f : Int → Int → Int} {a b z x y : Int} (h : ¬(x = a ∧ y = b)) : updF f a b z x y = f x y := by unfold updF; rw [if_neg h]

theorem MapF.made (w : World) : MapF (w.alloc (.map #[] 0)) w.heap.size 0 (fun _ _ => 0) :=
  ⟨_, World.ownsMap_made _ _ _ _, fun _ _ _ _ => rfl⟩
theorem MapF.lt {w : World} {b n : Nat} {f : Int → Int → Int} (h : MapF w b n f) : b < w.heap.size := by
  obtain ⟨D, h, -⟩ := h; exact h.lt
theorem MapF.keep {w w' : World} {b n : Nat} {f : Int → Int → Int} (h : MapF w b n f) (hb : w'.heap[b]? = w.heap[b]?) : MapF w' b n f := by
  obtain ⟨D, ⟨es, clock, h1, h2⟩, h3⟩ := h
  exact ⟨D, ⟨es, clock, hb.trans h1, h2⟩, h3⟩
theorem MapF.mono {w : World} {b n n' : Nat} {f : Int → Int → Int} (h : MapF w b n f) (hn : n ≤ n') : MapF w b n' f := by
  obtain ⟨D, h1, h2⟩ := h
  exact ⟨D, h1.mono hn, h2⟩
theorem MapF.look {w : World} {b n : Nat} {f : Int → Int → Int} (h : MapF w b n f) {x y : Int} (hx : -9223372036854775808 ≤ x ∧ x ≤ 9223372036854775807) (hy : -9223372036854775808 ≤ y ∧ y ≤ 9223372036854775807) :
    (Instr.lookup 53 (.map (some b)) (.agg #[.int .i64 x, .int .i64 y]) false).run Try.prog w = .ok (.int .i64 (f x y)) w := by
  obtain ⟨D, h1, h2⟩ := h
  obtain ⟨c, hr, hat, -⟩ := h1.lookup_int keyedRun Try.underlying53 Try.underlying3 (zeroI w) (keyOf_rv hx hy)
  rw [h2 x y _ (keyOf_rv hx hy)] at hat
  injection hat with hat
  injection hat with _ hat
  rw [hat]; exact hr
theorem MapF.put {w : World} {b n : Nat} {f : Int → Int → Int} (h : MapF w b n f) (hn : n < 1000000) {x y z : Int} (hx : -9223372036854775808 ≤ x ∧ x ≤ 9223372036854775807) (hy : -9223372036854775808 ≤ y ∧ y ≤ 9223372036854775807) (hz : -9223372036854775808 ≤ z ∧ z ≤ 9223372036854775807) :
    ∃ w', (Instr.mapUpdate 53 (.map (some b)) (.agg #[.int .i64 x, .int .i64 y]) (.int .i64 z)).run Try.prog w = .ok () w' ∧ MapF w' b (n + 1) (updF f x y z) ∧ w.grownBy w' (some b) := by
  obtain ⟨D, h1, h2⟩ := h
  obtain ⟨w', hr, ho, hg⟩ := h1.update keyedRun Try.underlying53 (by unfold maxLen; omega) (keyOf_rv hx hy) (plainElem_int Try.underlying3 (wf64 hz))
  refine ⟨w', hr, ⟨_, ho, fun x' y' kl hk => ?_⟩, hg⟩
  by_cases he : x' = x ∧ y' = y
  · obtain ⟨rfl, rfl⟩ := he
    rw [keyOf_rv hx hy] at hk
    injection hk with hk
    subst hk
    rw [updF_same]
    exact atKey_put_same (h1.tidy keyedRun).isMap (keyedRun.key (keyOf_rv hx hy)) _ _
  · rw [updF_other he, ← h2 x' y' kl hk]
    refine atKey_put_other (fun e => he ?_) _ _
    have := keyedRun.inj hk (e ▸ keyOf_rv hx hy)
    simp only [rv, Value.agg.injEq, Array.mk.injEq, List.cons.injEq, Value.int.injEq, true_and, and_true] at this
    exact this
end Go.Proofs.Ytcgpfdknadijlaa

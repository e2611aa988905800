/- slices.Clone at numbers. -/
import Derived.Test.YtdpijiccolbljaaInts
import Derived.Lib.SliceRun
namespace Go.Proofs.Ytdpijiccolbljaa
open Go.RowKit

set_option maxRecDepth 100000 in
theorem clone_any (v : Value) (zs : List Int) (w : World) (h : Rd w v zs) (h0 : 1 ≤ zs.length) (hl : zs.length ≤ 1048576) :
    Calls Try.prog 50 #[v] w fun e w' => ∃ v', e = .returned v' ∧ Own w' w.heap.size w'.heap.size v' zs ∧ Below w.heap.size w w' := by
  obtain ⟨a1, c1, rfl, l1, m1, r1⟩ := h
  obtain ⟨g, off, rfl, hg, hc⟩ := r1 (by omega)
  obtain ⟨i0, hi, hz0, hz1, hz2⟩ := info_parts infoInt
  have qT : ∀ (w : World) (a : Option Addr) (n c n' c' : Nat), (binOp .eql 22 (.slice a n c) (.slice none n' c')).run Try.prog w = .ok (.bool a.isNone) w := fun w a n c n' c' => Lib.run_eql_slice_nil w _ _ a n c n' c' Try.underlying22
  have hb0 : ∀ o, Below w.heap.size w (w.alloc o) := fun o => (Below.refl _ _).alloc (Nat.le_refl _) o
  have ho0 : (w.alloc (.cells #[] 3)).ownsRow w.heap.size 3 1 (.slice (some ⟨w.heap.size, 0, none⟩) 0 0) 0 [] := World.ownsRow_lit w #[] 0 (Nat.le_refl _) (by simp) (by simp)
  go_enter Try.func50, Try.ntmps50
  go_wp2_with (at_builtin; refine wpList_append_own _ rfl _ _ 22 rfl w.heap.size 3 i0 (.int .i64 0) 1 8 Try.underlying22 hi hz0 hz1 hz2 rfl (by decide) _ 0 [] rfl ho0 ⟨g, off, none⟩ zs.length c1 (zs.map (Value.int .i64)) rfl (by simp) ?n1 ?n2 ?c1 ?c2 ?c3 ?_)
  case n1 =>
    intro j u hu
    have e : (⟨g, off, none⟩ : Addr).add j = ⟨g, off + j, none⟩ := by unfold Addr.add; split <;> simp_all
    rw [List.getElem?_map] at hu
    by_cases hj : j < zs.length
    · rw [List.getElem?_eq_getElem hj] at hu
      injection hu with hu
      rw [e, (hb0 _).cell (p := ⟨g, off + j, none⟩) hg, hc j hj, ← hu]
      simp [List.getD, List.getElem?_eq_getElem hj]
    · rw [List.getElem?_eq_none (by omega)] at hu; cases hu
  case n2 => intro u hu; obtain ⟨_, _, rfl⟩ := List.mem_map.1 hu; rfl
  case c1 => unfold maxLen; omega
  case c2 => omega
  case c3 => simp
  intro v' w1 hown hgr _
  have hB : Below w.heap.size w w1 := by
    refine (hb0 (.cells #[] 3)).grown hgr (by simp) (fun k hk => ?_)
    have : w.heap.size = k := by injection hk
    omega
  have HB := Lib.hid hB; clear hB
  have HO := Lib.hid (Own.new hown (Nat.le_refl _))
  clear hown hgr hz0 hz1 hz2 hi qT hb0 ho0 hc r1
  go_wp2
  go_ret
  exact ⟨_, rfl, HO.out, HB.out⟩

theorem own_block {w : World} {lo hi n c : Nat} {A : Option Addr} {zs : List Int} (h : Own w lo hi (.slice A n c) zs) (h0 : 0 < zs.length) : ∃ b, A = some ⟨b, 0, none⟩ := by
  obtain ⟨⟨hl, h⟩, _⟩ := h
  rcases h with ⟨e, h1⟩ | ⟨g, cap, cur, e, _⟩
  · simp at hl; omega
  · injection e with e; exact ⟨g, e⟩
theorem own_form {w : World} {lo hi : Nat} {v : Value} {zs : List Int} (h : Own w lo hi v zs) : ∃ A c, v = .slice A zs.length c := by
  obtain ⟨a, c, e, -⟩ := h.rd
  exact ⟨a, c, e⟩
/-- A number written into a row of the call's own. -/
theorem Own.set {w : World} {lo hi g n cap : Nat} {zs : List Int} (h : Own w lo hi (.slice (some ⟨g, 0, none⟩) n cap) zs) (k : Nat) (z : Int) (hn : n = zs.length) :
    Own (w.setCell ⟨g, k, none⟩ (.int .i64 z)) lo hi (.slice (some ⟨g, 0, none⟩) n cap) (zs.set k z) ∧ Turned lo hi w (w.setCell ⟨g, k, none⟩ (.int .i64 z)) := by
  subst hn
  have h1 := h.1.stored k (.int .i64 z)
  have hlo := (h.1.lt g rfl).1
  have hhi := h.2 g rfl
  refine ⟨⟨?_, h.2⟩, ⟨rfl, rfl, rfl, by simp, fun k' _ hne => heap_setCell_other w ⟨g, k, none⟩ k' _ (by show k' ≠ g; omega)⟩⟩
  have h2 := h1.1
  rw [← List.map_set] at h2
  simpa using h2
theorem Own.frozenAt {w : World} {lo hi g n cap : Nat} {zs : List Int} (h : Own w lo hi (.slice (some ⟨g, 0, none⟩) n cap) zs) (k : Nat) (hn : n = zs.length) : w.frozen? ⟨g, k, none⟩ = false := by
  subst hn
  exact h.1.frozenAt k
/-- The k-th number of a row of the call's own. -/
theorem Own.cellAt {w : World} {lo hi g n cap : Nat} {zs : List Int} (h : Own w lo hi (.slice (some ⟨g, 0, none⟩) n cap) zs) (k : Nat) (hk : k < zs.length) : w.cell? ⟨g, k, none⟩ = some (.int .i64 (zs.getD k 0)) := by
  obtain ⟨a, c, e, -, -, h3⟩ := h.rd
  injection e with e1 e2 e3
  obtain ⟨g', off, e4, hg, hc⟩ := h3 (by omega)
  rw [e4] at e1
  injection e1 with e1
  injection e1 with e1 e5
  subst e1 e5
  have := hc k hk
  rwa [Nat.zero_add] at this
end Go.Proofs.Ytdpijiccolbljaa

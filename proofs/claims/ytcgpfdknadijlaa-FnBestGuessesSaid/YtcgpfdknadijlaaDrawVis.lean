/- Drawn visits, and numbers drawn out of a code. -/
import Derived.Test.YtcgpfdknadijlaaDraw
import Derived.Test.YtcgpfdknadijlaaInts
namespace Go.Proofs.Ytcgpfdknadijlaa
open Go.RowKit

set_option maxRecDepth 100000 in
theorem open_any (a : Option Addr) (len cap : Nat) (zs : List Int) (w : World) (h : IsRowB .u8 w a len cap zs) :
    Calls Try.prog 19 #[.slice a len cap] w fun e w' => (∃ g, e = .returned (.pointer (some ⟨g, 0, none⟩)) ∧ w.heap.size ≤ g ∧ g < w'.heap.size ∧ Rdr w' g 0) ∧ Below w.heap.size w w' := by
  obtain ⟨h1, h2, h3⟩ := bytes_of_row h
  have hb : ∀ o, Below w.heap.size w (w.alloc o) := fun o => (Below.refl _ _).alloc (Nat.le_refl _) o
  have HB := Lib.hid hb
  have HR : Hid (∀ (m c : Nat), m ≤ len → m ≤ 2000 → Rdr (w.alloc (.cells #[.slice a m c, .int .i64 0] 65)) w.heap.size 0) := by
    intro m c hm hm2
    refine ⟨a, c, 0, List.replicate m 0, ?_, by omega, by omega, by simpa using hm2, fun h0 => ?_⟩
    · rw [List.length_replicate]; exact heap_alloc_new _ _
    · rw [List.length_replicate] at h0 ⊢
      obtain ⟨b, off, e, hbb, hc⟩ := h3 (by omega)
      refine ⟨b, off, e, hbb, fun j hj => ?_⟩
      obtain ⟨z, hz, hz2⟩ := hc j (by omega)
      exact ⟨z, ((hb _).cell (p := ⟨b, off + j, none⟩) hbb).trans hz, hz2⟩
  clear hb h h3
  by_cases hl : 2000 < len
  · go_enter Try.func19, Try.ntmps19
    go_wp2
    go_ret
    exact ⟨⟨_, rfl, Nat.le_refl _, by simp, HR.out 2000 _ (by omega) (by omega)⟩, HB.out _⟩
  · go_enter Try.func19, Try.ntmps19
    go_wp2
    go_ret
    exact ⟨⟨_, rfl, Nat.le_refl _, by simp, HR.out len _ (by omega) (by omega)⟩, HB.out _⟩


theorem turned_refl (lo hi : Nat) (w : World) : Turned lo hi w w := ⟨rfl, rfl, rfl, Nat.le_refl _, fun _ _ _ => rfl⟩
theorem turned_trans {lo hi : Nat} {a b c : World} (h : Turned lo hi a b) (k : Turned lo hi b c) : Turned lo hi a c :=
  ⟨k.os.trans h.os, k.tape.trans h.tape, k.output.trans h.output, Nat.le_trans h.size k.size, fun i hi hne => (k.block i (Nat.lt_of_lt_of_le hi h.size) hne).trans (h.block i hi hne)⟩
theorem turned_alloc {lo hi : Nat} {a b : World} (h : Turned lo hi a b) (o : Obj) : Turned lo hi a (b.alloc o) :=
  turned_trans h ⟨rfl, rfl, rfl, by simp, fun k hk _ => Below.heap_alloc _ _ _ hk⟩
/-- Behind a step that wrote one row only, which came after a. -/
theorem turned_grown {lo hi : Nat} {a b c : World} {row : Option Nat} (h : Turned lo hi a b) (hg : b.grownBy c row) (hr : ∀ k, row = some k → a.heap.size ≤ k) : Turned lo hi a c :=
  ⟨hg.os.trans h.os, hg.tape.trans h.tape, hg.output.trans h.output, Nat.le_trans h.size hg.size, fun i hi hne => (hg.block i (Nat.lt_of_lt_of_le hi h.size) (fun e => by have := hr i e.symm; omega)).trans (h.block i hi hne)⟩
theorem turned_below {lo hi : Nat} {a b c : World} (h : Turned lo hi a b) (hb : Below a.heap.size b c) : Turned lo hi a c :=
  ⟨hb.os.trans h.os, hb.tape.trans h.tape, hb.output.trans h.output, Nat.le_trans h.size hb.size, fun i hi hne => (hb.block i hi).trans (h.block i hi hne)⟩

theorem turned_app {lo g : Nat} {w wr w' : World} {v v' : Value} {zs : List Int} {z : Int} {o : Obj} (hown : wr.ownsRow lo 3 1 v zs.length (zs.map (Value.int .i64))) (ht : Turned g (g + 1) w wr) (hB : w.heap.size ≤ lo) (hlo : lo ≤ wr.heap.size)
    (hown' : w'.ownsRow lo 3 1 v' (zs.length + 1) (zs.map (Value.int .i64) ++ [.int .i64 z])) (hg : (wr.alloc o).grownBy w' v.ownBlock) :
    w'.ownsRow lo 3 1 v' (zs ++ [z]).length ((zs ++ [z]).map (Value.int .i64)) ∧ Turned g (g + 1) w w' ∧ lo ≤ w'.heap.size := by
  refine ⟨by simpa using hown', turned_grown (turned_alloc ht o) hg (fun k hk => by have := (hown.lt k hk).1; omega), ?_⟩
  have := hg.size
  rw [World.size_alloc] at this
  omega

theorem rdr_keep {w w' : World} {g B : Nat} (h : Rdr w g B) (hk : ∀ k, k ≤ g → w'.heap[k]? = w.heap[k]?) : Rdr w' g B := by
  obtain ⟨A, c, p, bs, h1, h2, h3, h4, h5⟩ := h
  refine ⟨A, c, p, bs, (hk g (Nat.le_refl _)).trans h1, h2, h3, h4, fun h0 => ?_⟩
  obtain ⟨b, off, e, hb, hc⟩ := h5 h0
  refine ⟨b, off, e, hb, fun j hj => ?_⟩
  obtain ⟨z, hz, r⟩ := hc j hj
  exact ⟨z, (World.cell?_of_block (w := w) (a := ⟨b, off + j, none⟩) (hk b (by omega))).trans hz, r⟩
theorem rdr_lt {w : World} {g B : Nat} (h : Rdr w g B) : g < w.heap.size := by
  obtain ⟨A, c, p, bs, h1, _⟩ := h
  exact (Array.getElem?_eq_some_iff.1 h1).1
theorem rdr_more {w : World} {g B C : Nat} (h : Rdr w g B) (hC : B ≤ C) : Rdr w g C := by
  obtain ⟨A, c, p, bs, h1, h2, h3, h4⟩ := h
  exact ⟨A, c, p, bs, h1, h2, by omega, h4⟩

end Go.Proofs.Ytcgpfdknadijlaa

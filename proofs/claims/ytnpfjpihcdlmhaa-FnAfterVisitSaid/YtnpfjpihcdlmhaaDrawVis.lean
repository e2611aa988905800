/- Drawn visits, and numbers drawn out of a code. -/
import Derived.Test.YtnpfjpihcdlmhaaDraw
import Derived.Test.YtnpfjpihcdlmhaaInts
namespace Go.Proofs.Ytnpfjpihcdlmhaa
open Go.RowKit

set_option maxRecDepth 100000 in
theorem open_any (a : Option Addr) (len cap : Nat) (zs : List Int) (w : World) (h : IsRowB .u8 w a len cap zs) :
    Calls Try.prog 65 #[.slice a len cap] w fun e w' => (∃ g, e = .returned (.pointer (some ⟨g, 0, none⟩)) ∧ w.heap.size ≤ g ∧ g < w'.heap.size ∧ Rdr w' g 0) ∧ Below w.heap.size w w' := by
  obtain ⟨h1, h2, h3⟩ := bytes_of_row h
  have hb : ∀ o, Below w.heap.size w (w.alloc o) := fun o => (Below.refl _ _).alloc (Nat.le_refl _) o
  have HB := Lib.hid hb
  have HR : Hid (∀ (m c : Nat), m ≤ len → m ≤ 2000 → Rdr (w.alloc (.cells #[.slice a m c, .int .i64 0] 69)) w.heap.size 0) := by
    intro m c hm hm2
    refine ⟨a, c, 0, List.replicate m 0, ?_, by omega, by omega, by simpa using hm2, fun h0 => ?_⟩
    · rw [List.length_replicate]; exact heap_alloc_new _ _
    · rw [List.length_replicate] at h0 ⊢
      obtain ⟨b, off, e, hbb, hc⟩ := h3 (by omega)
      refine ⟨b, off, e, hbb, fun j hj => ?_⟩
      obtain ⟨z, hz, hz2⟩ := hc j (by omega)
      exact ⟨z, ((hb _).cell (p := ⟨b, off + j, none⟩) hbb).trans hz, hz2⟩
  clear hb h h3
  by_cases hl : 2000 < len
  · go_enter Try.func65, Try.ntmps65
    go_wp2
    go_ret
    exact ⟨⟨_, rfl, Nat.le_refl _, by simp, HR.out 2000 _ (by omega) (by omega)⟩, HB.out _⟩
  · go_enter Try.func65, Try.ntmps65
    go_wp2
    go_ret
    exact ⟨⟨_, rfl, Nat.le_refl _, by simp, HR.out len _ (by omega) (by omega)⟩, HB.out _⟩


theorem turned_refl (lo hi : Nat) (w : World) : Turned lo hi w w := ⟨rfl, rfl, rfl, Nat.le_refl _, fun _ _ _ => rfl⟩
theorem turned_trans {lo hi : Nat} {a b c : World} (h : Turned lo hi a b) (k : Turned lo hi b c) : Turned lo hi a c :=
  ⟨k.os.trans h.os, k.tape.trans h.tape, k.output.trans h.output, Nat.le_trans h.size k.size, fun i hi hne => (k.block i (Nat.lt_of_lt_of_le hi h.size) hne).trans (h.block i hi hne)⟩
theorem turned_alloc {lo hi : Nat} {a b : World} (h : Turned lo hi a b) (o : Obj) : Turned lo hi a (b.alloc o) :=
  turned_trans h ⟨rfl, rfl, rfl, by simp, fun k hk _ => Below.heap_alloc _ _ _ hk⟩
/-- Behind a step that wrote one row only, which came after a. -/
theorem turned_grown {lo hi : Nat} {a b c : World} {row : Option Nat} (h : Turned lo hi a b) (hg : b.grownBy c row) (hr : ∀ k, row = some k → a.heap.size ≤ k) : Turned lo hi a c :=
  ⟨hg.os.trans h.os, hg.tape.trans h.tape, hg.output.trans h.output, Nat.le_trans h.size hg.size, fun i hi hne => (hg.block i (Nat.lt_of_lt_of_le hi h.size) (fun e => by have := hr i e.symm; omega)).trans (h.block i hi hne)⟩
theorem turned_below {lo hi : Nat} {a b c : World} (h : Turned lo hi a b) (hb : Below a.heap.size b c) : Turned lo hi a c :=
  ⟨hb.os.trans h.os, hb.tape.trans h.tape, hb.output.trans h.output, Nat.le_trans h.size hb.size, fun i hi hne => (hb.block i hi).trans (h.block i hi hne)⟩

theorem turned_app {lo g : Nat} {w wr w' : World} {v v' : Value} {zs : List Int} {z : Int} {o : Obj} (hown : wr.ownsRow lo 3 1 v zs.length (zs.map (Value.int .i64))) (ht : Turned g (g + 1) w wr) (hB : w.heap.size ≤ lo) (hlo : lo ≤ wr.heap.size)
    (hown' : w'.ownsRow lo 3 1 v' (zs.length + 1) (zs.map (Value.int .i64) ++ [.int .i64 z])) (hg : (wr.alloc o).grownBy w' v.ownBlock) :
    w'.ownsRow lo 3 1 v' (zs ++ [z]).length ((zs ++ [z]).map (Value.int .i64)) ∧ Turned g (g + 1) w w' ∧ lo ≤ w'.heap.size := by
  refine ⟨by simpa using hown', turned_grown (turned_alloc ht o) hg (fun k hk => by have := (hown.lt k hk).1; omega), ?_⟩
  have := hg.size
  rw [World.size_alloc] at this
  omega

theorem rdr_keep {w w' : World} {g B : Nat} (h : Rdr w g B) (hk : ∀ k, k ≤ g → w'.heap[k]? = w.heap[k]?) : Rdr w' g B := by
  obtain ⟨A, c, p, bs, h1, h2, h3, h4, h5⟩ := h
  refine ⟨A, c, p, bs, (hk g (Nat.le_refl _)).trans h1, h2, h3, h4, fun h0 => ?_⟩
  obtain ⟨b, off, e, hb, hc⟩ := h5 h0
  refine ⟨b, off, e, hb, fun j hj => ?_⟩
  obtain ⟨z, hz, r⟩ := hc j hj
  exact ⟨z, (World.cell?_of_block (w := w) (a := ⟨b, off + j, none⟩) (hk b (by omega))).trans hz, r⟩
theorem rdr_lt {w : World} {g B : Nat} (h : Rdr w g B) : g < w.heap.size := by
  obtain ⟨A, c, p, bs, h1, _⟩ := h
  exact (Array.getElem?_eq_some_iff.1 h1).1
theorem rdr_more {w : World} {g B C : Nat} (h : Rdr w g B) (hC : B ≤ C) : Rdr w g C := by
  obtain ⟨A, c, p, bs, h1, h2, h3, h4⟩ := h
  exact ⟨A, c, p, bs, h1, h2, by omega, h4⟩

/-- What drawn visits are like. -/
def VisR (n P : Int) (zs : List Int) : Prop := 0 ≤ P ∧ P ≤ 5 ∧ zs.length ≤ 61 ∧ (∀ z ∈ zs, 0 ≤ z ∧ z ≤ 5) ∧ (n ≤ 0 → 1 ≤ P ∧ zs.length ≤ 40 ∧ ∀ z ∈ zs, 0 ≤ z ∧ z < P)

set_option maxHeartbeats 800000 in
set_option maxRecDepth 100000 in
theorem visits_any (g B : Nat) (n : Int) (w : World) (h : Rdr w g B) (hB : B ≤ 1000000) :
    Calls Try.prog 64 #[.pointer (some ⟨g, 0, none⟩), .int .i64 n] w fun e w' => (∃ P v zs, e = .returned (.tuple #[.int .i64 P, v]) ∧ VisR n P zs ∧ Own w' w.heap.size w'.heap.size v zs) ∧ Rdr w' g (B + 100) ∧ Turned g (g + 1) w w' := by
  obtain ⟨i0, hi, hz0, hz1, hz2⟩ := info_parts infoInt
  have hg := rdr_lt h
  go_enter Try.func64, Try.ntmps64
  go_wp2_with fail
  refine (pick_any g B 5 w h (by omega)).mono ?_
  rintro e w1 ⟨x, rfl, ⟨hx0, hx1, hx2⟩, r1, t1, s1⟩
  have hx3 := hx1 (by omega)
  clear hx1 hx2 h
  have S1 := Lib.hid s1; clear s1
  go_wp2_with fail
  have o1 : (w1.alloc (.cells #[] 3)).ownsRow w1.heap.size 3 1 (.slice (some ⟨w1.heap.size, 0, none⟩) 0 0) 0 [] := World.ownsRow_lit w1 #[] 0 (Nat.le_refl _) (by simp) (by simp)
  have r1b : Rdr (w1.alloc (.cells #[] 3)) g (B + 1) := rdr_keep r1 (fun k hk => Below.heap_alloc _ _ _ (by have := S1.out; omega))
  have t1b := turned_alloc t1 (.cells #[] 3)
  refine (pick_any g (B + 1) 41 _ r1b (by omega)).mono ?_
  rintro e w2 ⟨y, rfl, ⟨hy0, hy1, hy2⟩, r2, t2, s2⟩
  have hy3 := hy1 (by omega)
  obtain ⟨Y, rfl⟩ := Int.eq_ofNat_of_zero_le hy0
  have o2 : w2.ownsRow w1.heap.size 3 1 (.slice (some ⟨w1.heap.size, 0, none⟩) 0 0) 0 [] := by
    have oo : Own (w1.alloc (.cells #[] 3)) w1.heap.size (w1.heap.size + 1) (.slice (some ⟨w1.heap.size, 0, none⟩) 0 0) [] := Own.new o1 (by simp)
    exact (oo.turned t2 (by simp) (.inr (by have := S1.out; omega))).1
  have t2b := turned_trans t1b t2
  rw [World.size_alloc] at s2
  have S2 := Lib.hid s2
  clear hy1 hy2 r1 r1b t1 t1b t2 o1 s2
  have hsz2 : w1.heap.size ≤ w2.heap.size := by have := S2.out; omega
  have hlo : w.heap.size ≤ w1.heap.size := by have := S1.out; omega
  have hgl : g < w1.heap.size := by have := S1.out; omega
  go_wp2_with fail
  go_loopw [7, 8, 9] (fun v k _ wr => ∃ (j : Nat) (zs : List Int) (C : Nat), j ≤ 40 ∧ k = .int .i64 j ∧ wr.ownsRow w1.heap.size 3 1 v zs.length (zs.map (Value.int .i64)) ∧ zs.length + j ≤ 40 ∧ (∀ z ∈ zs, 0 ≤ z ∧ z < 1 + x) ∧ Rdr wr g C ∧ C + 2 * j ≤ B + 90 ∧ Turned g (g + 1) w wr ∧ w1.heap.size ≤ wr.heap.size)
    (fun _ k _ _ => (intOf k).toNat)
  case atStart => exact ⟨Y, [], B + 2, by omega, rfl, o2, by simp; omega, by simp, r2, by omega, t2b, hsz2⟩
  case round =>
    clear o2 r2 t2b
    obtain ⟨j, zs, C, hj, rfl, o3, hlen, hzs, r3, hC, t3, hsz3⟩ := hrel
    rcases j with _ | j
    · have hown : Own wr w.heap.size wr.heap.size _ zs := (Own.new o3 (Nat.le_refl _)).wide hlo (Nat.le_refl _)
      go_wp2_with fail
      refine (odd_any g C n _ r3 (by omega)).mono ?_
      rintro e w3 ⟨b, rfl, hb, r4, t4b, s4⟩
      have o4 := (show Own wr w1.heap.size wr.heap.size _ zs from Own.new o3 (Nat.le_refl _)).turned t4b (Nat.le_refl _) (.inr (by omega))
      have t4 := turned_trans t3 t4b
      have S4 := Lib.hid s4
      clear hown o3 r3 t3 t4b s4
      rcases b with _ | _
      · have S := Nat.le_of_eq S4.out
        have Sb := Nat.le_of_eq S4.out.symm
        go_wp2
        go_ret2
        exact ⟨⟨_, _, zs, rfl, ⟨by omega, by omega, by omega, fun z hz => by have := hzs z hz; omega, fun _ => ⟨by omega, by omega, hzs⟩⟩, o4.wide hlo (by omega)⟩, rdr_more r4 (by omega), t4⟩
      · have hn : ¬ n ≤ 0 := fun h => by have := hb h; cases this
        go_wp2_with fail
        refine (pick_any g (C + 1) 3 _ r4 (by omega)).mono ?_
        rintro e w5 ⟨q, rfl, ⟨hq0, hq1, hq2⟩, r5, t5b, s5⟩
        have hq3 := hq1 (by omega)
        have o5 := o4.turned t5b (by have := S4.out; omega) (.inr (by omega))
        have t5 := turned_trans t4 t5b
        have S5 := Lib.hid s5
        clear hq1 hq2 r4 t4 t5b s5 o4
        have hcase : q = 0 ∨ q = 1 ∨ q = 2 := by omega
        rcases hcase with rfl | rfl | rfl
        · have S := Nat.le_of_eq S4.out
          have Sb := Nat.le_of_eq S4.out.symm
          have S' := Nat.le_of_eq S5.out
          have Sb' := Nat.le_of_eq S5.out.symm
          go_wp2
          go_ret2
          exact ⟨⟨0, _, zs, rfl, ⟨by omega, by omega, by omega, fun z hz => by have := hzs z hz; omega, fun h => absurd h (by omega)⟩, o5.wide hlo (by omega)⟩, rdr_more r5 (by omega), t5⟩
        · have S := Nat.le_of_eq S4.out
          have Sb := Nat.le_of_eq S4.out.symm
          have S' := Nat.le_of_eq S5.out
          have Sb' := Nat.le_of_eq S5.out.symm
          have hs5 : w1.heap.size ≤ w5.heap.size := by omega
          have o6 := o5.1
          go_wp2_with (first | (at_builtin; refine wpList_append_own _ rfl _ _ 22 rfl w1.heap.size 3 i0 (.int .i64 0) 1 8 Try.underlying22 hi hz0 hz1 hz2 rfl (by decide) _ _ _ rfl (o6.alloc _) ⟨w5.heap.size, 0, none⟩ 1 1 [.int .i64 (1 + x)] rfl rfl (one_new _ _ _) (one_cell _ _) ?_ ?_ ?_ ?_))
          · unfold maxLen; omega
          · omega
          · rw [World.size_alloc]; omega
          intro v' w6 hown' hgr _
          have ha := turned_app (z := 1 + x) o6 t5 hlo hs5 hown' hgr
          have hr6 : Rdr w6 g (C + 2) := rdr_keep r5 (fun k hk => (hgr.block k (by simp <;> omega) (fun e => by have := (o6.lt k e.symm).1; omega)).trans (Below.heap_alloc _ _ _ (by omega)))
          have HA := Lib.hid ha
          clear ha hown' hgr o5 o6 r5 t5 hz0 hz1 hz2 hi
          go_wp2
          go_ret2
          exact ⟨⟨_, _, zs ++ [1 + x], rfl, ⟨by omega, by omega, by simp; omega, fun z hz => by rcases List.mem_append.1 hz with h | h; (have := hzs z h; omega); (simp at h; omega), fun h => absurd h (by omega)⟩, (Own.new HA.out.1 (Nat.le_refl _)).wide hlo (Nat.le_refl _)⟩, rdr_more hr6 (by omega), HA.out.2.1⟩
        · have S := Nat.le_of_eq S4.out
          have Sb := Nat.le_of_eq S4.out.symm
          have S' := Nat.le_of_eq S5.out
          have Sb' := Nat.le_of_eq S5.out.symm
          have hmk : ∀ W : World, (Instr.makeSlice 22 (.int .i64 61) (.int .i64 61)).run Try.prog W = .ok (.slice (some ⟨W.heap.size, 0, none⟩) 61 61) (W.alloc (.cells (madeCells #[.int .i64 0] 61) 3)) := fun W => by
            have hr := run_make (P := Try.prog) W 22 3 i0 (.int .i64 0) Try.underlying22 hi hz0 .i64 .i64 61 61 (by omega) (by omega) (by rw [hz2]; omega) (by omega)
            simpa [hz1, Value.cells] using hr
          have om : ∀ W : World, w1.heap.size ≤ W.heap.size → (W.alloc (.cells (madeCells #[.int .i64 0] 61) 3)).ownsRow w1.heap.size 3 1 (.slice (some ⟨W.heap.size, 0, none⟩) 61 61) 61 ((List.replicate 61 (0 : Int)).map (Value.int .i64)) := fun W hW => by
            have := World.ownsRow_lit W (e := 3) (base := w1.heap.size) (size := 1) (madeCells #[.int .i64 0] 61) 61 hW (by unfold maxLen; omega) (by simp [size_madeCells])
            rw [toList_madeCells_one] at this
            rw [List.map_replicate]; exact this
          have hs5 : w1.heap.size ≤ w5.heap.size := by omega
          obtain ⟨mc, hmc⟩ : ∃ mc, mc = madeCells #[Value.int .i64 0] 61 := ⟨_, rfl⟩
          rw [← hmc] at hmk om
          have hO : Own (w5.alloc (.cells mc 3)) w.heap.size (w5.heap.size + 1) (.slice (some ⟨w5.heap.size, 0, none⟩) 61 61) (List.replicate 61 0) :=
            (show Own _ w1.heap.size (w5.heap.size + 1) _ _ from Own.new (om w5 hs5) (by simp)).wide hlo (Nat.le_refl _)
          have hr6 : Rdr (w5.alloc (.cells mc 3)) g (C + 2) := rdr_keep r5 (fun k hk => Below.heap_alloc _ _ _ (by omega))
          have ht6 := turned_alloc t5 (.cells mc 3)
          have HO := Lib.hid hO; have HR := Lib.hid hr6; have HT := Lib.hid ht6
          clear hmc om hO hr6 ht6 o5 r5 t5 hz0 hz1 hz2 hi
          go_wp2
          go_region
          all_goals go_wp2
          all_goals go_ret2
          all_goals exact ⟨⟨_, _, List.replicate 61 0, rfl, ⟨by omega, by omega, by simp, fun z hz => by have := List.eq_of_mem_replicate hz; omega, fun h => absurd h (by omega)⟩, HO.out.wide (Nat.le_refl _) (by simp)⟩, rdr_more HR.out (by omega), ⟨HT.out.os, HT.out.tape, HT.out.output, HT.out.size, HT.out.block⟩⟩
    · have hjp : (0 : Int) < ((j + 1 : Nat) : Int) := by omega
      go_wp2_with fail
      refine (pick_any g C (1 + x) _ r3 (by omega)).mono ?_
      rintro e w3 ⟨p, rfl, ⟨hp0, hp1, hp2⟩, r3b, t3b, s3⟩
      have hp3 := hp1 (by omega)
      have o3b := (show Own _ w1.heap.size _ _ zs from Own.new o3 (Nat.le_refl _)).turned t3b (Nat.le_refl _) (.inr (by omega))
      have t3c := turned_trans t3 t3b
      have S3 := Lib.hid s3
      clear hp1 hp2 o3 r3 t3 t3b s3
      go_wp2_with fail
      refine (pick_any g (C + 1) 3 _ r3b (by omega)).mono ?_
      rintro e w4 ⟨q, rfl, ⟨hq0, hq1, hq2⟩, r4, t4b, s4⟩
      have o4 := (o3b.turned t4b (by have := S3.out; omega) (.inr (by omega))).1
      have t4 := turned_trans t3c t4b
      have hsz4 : w1.heap.size ≤ w4.heap.size := by have := S3.out; omega
      clear hq1 hq2 r3b t4b t3c s4 o3b
      by_cases hq : q = 0
      · have hqq : (q == 0) = true := by simpa using hq
        clear hq
        (
          go_wp2_with (first | (at_builtin; refine wpList_append_own _ rfl _ _ 22 rfl w1.heap.size 3 i0 (.int .i64 0) 1 8 Try.underlying22 hi hz0 hz1 hz2 rfl (by decide) _ _ _ rfl (o4.alloc _) ⟨w4.heap.size, 0, none⟩ 1 1 [.int .i64 0] rfl rfl (one_new _ _ _) (one_cell _ _) ?_ ?_ ?_ ?_))
          · unfold maxLen; omega
          · omega
          · rw [World.size_alloc]; omega
          intro v' w5 hown' hgr _
          have ha := turned_app (z := 0) o4 t4 hlo hsz4 hown' hgr
          have hr5 : Rdr w5 g (C + 2) := rdr_keep r4 (fun k hk => (hgr.block k (by simp <;> omega) (fun e => by have := (o4.lt k e.symm).1; omega)).trans (Below.heap_alloc _ _ _ (by omega)))
          have HA := Lib.hid ha
          clear ha hown' hgr o4 r4 t4 hz0 hz1 hz2 hi
          go_wp2
          go_roundw
          case rel => exact ⟨j, zs ++ [0], C + 2, by omega, by go_num, HA.out.1, by simp; omega, fun z hz => by rcases List.mem_append.1 hz with h | h; exact hzs z h; simp at h; omega, hr5, by omega, HA.out.2.1, HA.out.2.2⟩
          case measure => simp [intOf])
      · have hqq : (q == 0) = false := by simpa using hq
        clear hq
        (
          go_wp2_with (first | (at_builtin; refine wpList_append_own _ rfl _ _ 22 rfl w1.heap.size 3 i0 (.int .i64 0) 1 8 Try.underlying22 hi hz0 hz1 hz2 rfl (by decide) _ _ _ rfl (o4.alloc _) ⟨w4.heap.size, 0, none⟩ 1 1 [.int .i64 p] rfl rfl (one_new _ _ _) (one_cell _ _) ?_ ?_ ?_ ?_))
          · unfold maxLen; omega
          · omega
          · rw [World.size_alloc]; omega
          intro v' w5 hown' hgr _
          have ha := turned_app (z := p) o4 t4 hlo hsz4 hown' hgr
          have hr5 : Rdr w5 g (C + 2) := rdr_keep r4 (fun k hk => (hgr.block k (by simp <;> omega) (fun e => by have := (o4.lt k e.symm).1; omega)).trans (Below.heap_alloc _ _ _ (by omega)))
          have HA := Lib.hid ha
          clear ha hown' hgr o4 r4 t4 hz0 hz1 hz2 hi
          go_wp2
          go_roundw
          case rel => exact ⟨j, zs ++ [p], C + 2, by omega, by go_num, HA.out.1, by simp; omega, fun z hz => by rcases List.mem_append.1 hz with h | h; exact hzs z h; simp at h; omega, hr5, by omega, HA.out.2.1, HA.out.2.2⟩
          case measure => simp [intOf])
end Go.Proofs.Ytnpfjpihcdlmhaa

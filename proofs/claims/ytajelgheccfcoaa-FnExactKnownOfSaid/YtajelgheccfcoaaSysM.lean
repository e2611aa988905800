/- The laws' helpers on lists of sayings: what is copied and what is marked. -/
import Derived.Test.YtajelgheccfcoaaSys
namespace Go.Proofs.Ytajelgheccfcoaa
open Go.RowKit

set_option maxRecDepth 100000 in
theorem toSaying_any (x : Int) (S : ByteArray) (w : World) :
    Calls Try.prog 39 #[.agg #[.int .i64 x, .string S]] w fun e w' => e = .returned (.agg #[.int .i64 x, .string S]) ∧ Below w.heap.size w w' := by
  obtain ⟨W, hW⟩ : ∃ W : World, W = ((w.alloc (.cells #[.int .i64 x, .string S] 50)).alloc (.cells #[.int .i64 x, .string S] 45)).alloc (.cells #[.int .i64 x, .string S] 45) := ⟨_, rfl⟩
  have hb3 : Below w.heap.size w W := by
    rw [hW]; exact (((Below.refl _ _).alloc (Nat.le_refl _) _).alloc (by simp) _).alloc (by simp; omega) _
  have g1 : W.heap[w.heap.size + 1]? = some (.cells #[.int .i64 x, .string S] 45 (0, 0)) := by
    rw [hW, Below.heap_alloc _ _ _ (by simp)]; exact heap_alloc2_new _ _ _
  have HG := Lib.hid g1
  have HB := Lib.hid hb3
  have HW := Lib.hid hW
  clear hW g1 hb3
  go_enter Try.func39, Try.ntmps39
  go_wp2
  rw [← HW.out]
  obtain ⟨⟨j0, j1⟩, -, -, -⟩ := blk2 HG.out
  refine bodyPost_ret (v := .agg #[.int .i64 x, .string S]) (by simp [results, Try.results39, go_sem, j0, j1]) rfl ⟨rfl, HB.out⟩

theorem cellsS_zero : ∀ n, (madeCells #[Value.int .i64 0, .string ⟨#[]⟩] (n * 2)).toList = cellsS (List.replicate n noSy) := by
  intro n
  apply List.ext_getElem?
  intro j
  by_cases hj : j < n * 2
  · have hr : (List.replicate n noSy).getD (j / 2) noSy = noSy := by
      simp only [List.getD, List.getElem?_replicate]; split <;> rfl
    obtain ⟨d0, d1⟩ := cellsS_at (List.replicate n noSy) (j / 2) (by simp; omega)
    rw [hr] at d0 d1
    have hm : (madeCells #[Value.int .i64 0, .string ⟨#[]⟩] (n * 2)).toList[j]? = some ((#[Value.int .i64 0, .string ⟨#[]⟩] : Array Value)[j % 2]!) := by
      simp [madeCells, hj]
    rw [hm]
    rcases (show j = j / 2 * 2 ∨ j = j / 2 * 2 + 1 by omega) with h2 | h2
    · have e : j % 2 = 0 := by omega
      rw [e, show (cellsS (List.replicate n noSy))[j]? = (cellsS (List.replicate n noSy))[j / 2 * 2]? by rw [← h2], d0]; rfl
    · have e : j % 2 = 1 := by omega
      rw [e, show (cellsS (List.replicate n noSy))[j]? = (cellsS (List.replicate n noSy))[j / 2 * 2 + 1]? by rw [← h2], d1]; rfl
  · rw [List.getElem?_eq_none (by simp [madeCells]; omega), List.getElem?_eq_none (by rw [length_cellsS, List.length_replicate]; omega)]

theorem cells_cpy (ps : List Sy) (k n : Nat) (x : Int) (l : List UInt8) (h : k < ps.length) (hn : n = ps.length) (hx : (x, l) = ps.getD k noSy) :
    ((cellsS (ps.take k ++ List.replicate (n - k) noSy)).set (k * 2) (.int .i64 x)).set (k * 2 + 1) (.string (tx l)) = cellsS (ps.take (k + 1) ++ List.replicate (n - (k + 1)) noSy) := by
  have hl : (cellsS (ps.take k)).length = k * 2 := by rw [length_cellsS, List.length_take]; omega
  rw [takeS_snoc ps k h, ← hx, show n - k = n - (k + 1) + 1 from by omega, List.replicate_succ]
  simp only [cellsS_append, cellsS, List.append_assoc, List.nil_append, List.cons_append]
  rw [List.set_append_right _ _ (by omega), hl, Nat.sub_self, List.set_cons_zero, List.set_append_right _ _ (by omega), hl, show k * 2 + 1 - k * 2 = 1 from by omega, List.set_cons_succ, List.set_cons_zero]

set_option maxHeartbeats 1600000 in
set_option maxRecDepth 100000 in
theorem toSayingS_any (v : Value) (ps : List Sy) (w : World) (h : RdS w v ps) (hsz : ps.length ≤ 1048576) :
    Calls Try.prog 14 #[v] w fun e w' => ∃ u, e = .returned u ∧ OwnS w' w.heap.size w'.heap.size u ps ∧ Below w.heap.size w w' := by
  have HR := Lib.hid h
  obtain ⟨a1, c1, rfl, l1, m1, -⟩ := h
  obtain ⟨i0, hi, hz0, hz1, hz2⟩ := info_parts infoSay
  go_enter Try.func14, Try.ntmps14
  go_wp2_with (at_make; refine wpList_make_full _ rfl _ _ 26 rfl w.heap.size 45 i0 (.agg #[.int .i64 0, .string ⟨#[]⟩]) 2 Try.underlying26 hi hz0 hz1 _ _ _ _ ps.length rfl rfl rfl rfl ?c1 ?c2 ?c3 ?_)
  case c1 => rw [hz2]; omega
  case c2 => unfold maxLen; omega
  case c3 => exact Nat.le_refl _
  intro w1 hown hgr
  have e0 : (madeCells #[Value.int .i64 0, .string ⟨#[]⟩] (ps.length * 2)).toList = cellsS (ps.take 0 ++ List.replicate (ps.length - 0) noSy) := cellsS_zero ps.length
  have hown : w1.ownsRow w.heap.size 45 2 (.slice (some ⟨w.heap.size, 0, none⟩) ps.length ps.length) ps.length (cellsS (ps.take 0 ++ List.replicate (ps.length - 0) noSy)) := by rw [← e0]; exact hown
  have hb1 : Below w.heap.size w w1 := (Below.refl _ _).grown hgr (Nat.le_refl _) (fun k hk => by cases hk)
  clear e0 hz0 hz1 hz2 hi hgr
  go_wp2
  go_loopw [4] (fun i wr => ∃ k : Nat, k ≤ ps.length ∧ i = .int .i64 k ∧ wr.ownsRow w.heap.size 45 2 (.slice (some ⟨w.heap.size, 0, none⟩) ps.length ps.length) ps.length (cellsS (ps.take k ++ List.replicate (ps.length - k) noSy)) ∧ Below w.heap.size w wr)
    (fun i _ => ps.length - (intOf i).toNat)
  case atStart => exact ⟨0, Nat.zero_le _, rfl, hown, hb1⟩
  case round =>
    clear hown hb1
    obtain ⟨k, hk, rfl, hr, hbr⟩ := hrel
    by_cases hlt : k < ps.length
    · obtain ⟨a2, c2, e9, l2, m2, r2⟩ := HR.out.below hbr (Nat.le_refl _)
      injection e9 with e1 e2 e3
      subst e1 e3
      obtain ⟨g1, o1, x, l, rfl, hg1, ⟨c0, c1⟩, Z1⟩ := rdS_at r2 k hlt
      have hll : (cellsS (ps.take k ++ List.replicate (ps.length - k) noSy)).length = ps.length * 2 := by rw [length_cellsS, List.length_append, List.length_take, List.length_replicate]; omega
      have hst := cells_cpy ps k ps.length x l hlt rfl Z1.out
      have HRR := Lib.hid hr; have HBR := Lib.hid hbr
      have HST := Lib.hid hst
      have HLL := Lib.hid hll
      clear r2 Z1 hr hbr hst hll
      generalize tx l = S at *
      go_wp2_with fail
      with_reducible refine (toSaying_any x S _).mono ?_
      rintro e w2 ⟨rfl, b2⟩
      have hr2 : w2.ownsRow w.heap.size 45 2 (.slice (some ⟨w.heap.size, 0, none⟩) ps.length ps.length) ps.length (cellsS (ps.take k ++ List.replicate (ps.length - k) noSy)) := by
        have h9 := HRR.out
        obtain ⟨h1, h2⟩ := h9
        refine ⟨h1, ?_⟩
        rcases h2 with h2 | ⟨g', cap', cur, e1, hg', hh, r⟩
        · exact .inl h2
        · exact .inr ⟨g', cap', cur, e1, hg', (b2.block _ (Array.getElem?_eq_some_iff.1 hh).1).trans hh, r⟩
      have hb2 := HBR.out.trans (b2.mono HBR.out.size)
      have f0 := hr2.frozenAt (k * 2)
      have f1 := hr2.frozenAt (k * 2 + 1)
      have hat : ∀ i, i < ps.length * 2 → ∃ u, w2.cell? ⟨w.heap.size, i, none⟩ = some u := fun i hi => by
        have := hr2.cellAt i (by omega)
        rw [List.getElem?_eq_getElem (by rw [HLL.out]; omega)] at this
        exact ⟨_, this⟩
      obtain ⟨u0, d0⟩ := hat (k * 2) (by omega)
      obtain ⟨u1, d1⟩ := hat (k * 2 + 1) (by omega)
      have s1 := hr2.stored (k * 2) (.int .i64 x)
      have s2 := s1.1.stored (k * 2 + 1) (.string S)
      rw [HST.out] at s2
      have HS2 := Lib.hid s2.1
      have HB2 := Lib.hid (hb2.grown (s1.2.trans s2.2) hb2.size (fun j hj => by injection hj with hj; omega))
      clear s1 s2 hat b2 hb2 hr2 c0 c1
      go_wp2
      go_roundw
      case rel => exact ⟨k + 1, by omega, by go_num, HS2.out, HB2.out⟩
      case measure => simp [intOf]; omega
    · have hk' : k = ps.length := by omega
      have HO : Hid (OwnS wr w.heap.size wr.heap.size (.slice (some ⟨w.heap.size, 0, none⟩) ps.length ps.length) ps) := by
        refine OwnS.new ?_ (Nat.le_refl _)
        rw [hk', Nat.sub_self, List.replicate_zero, List.append_nil, List.take_length] at hr
        exact hr
      have HBE := Lib.hid hbr
      clear hr hbr
      go_wp2
      go_ret
      exact ⟨_, rfl, HO.out, HBE.out⟩
end Go.Proofs.Ytajelgheccfcoaa

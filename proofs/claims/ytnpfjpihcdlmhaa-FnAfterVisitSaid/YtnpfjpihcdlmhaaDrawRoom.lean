/- Drawn rooms. -/
import Derived.Test.YtnpfjpihcdlmhaaDraws
import Derived.Test.YtnpfjpihcdlmhaaImpAv
import Derived.Test.YtnpfjpihcdlmhaaSpecV
namespace Go.Proofs.Ytnpfjpihcdlmhaa
open Go.RowKit

theorem roomI_mem {P : Int} {zs : List Int} (hv : visB P zs = true) : (0 ≤ (roomI P zs).1 ∧ (roomI P zs).1 ≤ 1) ∧ (0 ≤ (roomI P zs).2.1 ∧ (roomI P zs).2.1 ≤ 1000) ∧ ((roomI P zs).2.2.length : Int) = P := by
  unfold roomI
  rw [if_pos hv]
  obtain ⟨h1, h2⟩ := stV_len hv zs.length (Nat.le_refl _)
  obtain ⟨h3, h4⟩ := roomB_cnt h1
  have := (visB_yes hv).1
  exact ⟨h3, h4, by omega⟩

/-- What is known while a room is drawn. -/
structure DrR (w : World) (g q lo hi C : Nat) (sw cnt : Int) (A : Option Addr) (c : Nat) (L : List Int) (W : World) : Prop where
  zero : W.heap[w.heap.size]? = some (.cells #[.int .i64 0, .int .i64 0, .slice none 0 0] 30 (0, 0))
  room : W.heap[q]? = some (.cells #[.int .i64 sw, .int .i64 cnt, .slice A L.length c] 30 (0, 0))
  own : Own W lo hi (.slice A L.length c) L
  rdr : Rdr W g C
  turned : Turned g (g + 1) w W
  a0 : g < w.heap.size
  a1 : w.heap.size < lo
  a2 : hi ≤ q
  a3 : q < W.heap.size
  a4 : w.heap.size < q

section
variable {w W W' : World} {g q lo hi C : Nat} {sw cnt : Int} {A : Option Addr} {c : Nat} {L : List Int}
theorem DrR.turn (h : DrR w g q lo hi C sw cnt A c L W) (hr : Rdr W' g (C + 1)) (ht : Turned g (g + 1) W W') : DrR w g q lo hi (C + 1) sw cnt A c L W' := by
  obtain ⟨z, r, o, d, t, a0, a1, a2, a3, a4⟩ := h
  exact ⟨(ht.block _ (by omega) (.inr (by omega))).trans z, (ht.block _ a3 (.inr (by omega))).trans r, o.turned ht (by omega) (.inr (by omega)), hr, turned_trans t ht, a0, a1, a2, Nat.lt_of_lt_of_le a3 ht.size, a4⟩

theorem DrR.own_end (h : DrR w g q lo hi C sw cnt A c L W) (x y v : Value) : ∀ W', W' = (((W.setCell ⟨w.heap.size, 0, none⟩ x).setCell ⟨w.heap.size, 1, none⟩ y).setCell ⟨w.heap.size, 2, none⟩ v) → W'.heap[w.heap.size]? = some (.cells #[x, y, v] 30 (0, 0)) ∧
    Own W' w.heap.size W'.heap.size (.slice A L.length c) L ∧ Rdr W' g C ∧ Turned g (g + 1) w W' := by
  rintro W' rfl
  obtain ⟨z, r, o, d, t, a0, a1, a2, a3, a4⟩ := h
  obtain ⟨t1, t2, t3⟩ := set3 z x y v
  refine ⟨t1, (o.turned t2 (by omega) (.inr (by omega))).wide (by omega) (by omega), rdr_keep d (fun k hk => t2.block k (by omega) (.inl (by omega))), ⟨t2.os.trans t.os, t2.tape.trans t.tape, t2.output.trans t.output, Nat.le_trans t.size t2.size, fun k hk hne => (t2.block k (by have := t.size; omega) (by omega)).trans (t.block k hk hne)⟩⟩

theorem DrR.count (h : DrR w g q lo hi C sw cnt A c L W) (z : Int) : DrR w g q lo hi C sw z A c L (W.setCell ⟨q, 1, none⟩ (.int .i64 z)) := by
  obtain ⟨z0, r, o, d, t, a0, a1, a2, a3, a4⟩ := h
  have q1 := heap_setCell_same W q 1 _ _ (.int .i64 z) r
  have hk : ∀ k, k ≠ q → (W.setCell ⟨q, 1, none⟩ (.int .i64 z)).heap[k]? = W.heap[k]? := fun k hk => heap_setCell_other W ⟨q, 1, none⟩ k _ hk
  exact ⟨(hk _ (by omega)).trans z0, by simpa using q1, o.keep fun k _ _ => hk k (by omega), rdr_keep d (fun k hk2 => hk k (by omega)), ⟨t.os, t.tape, t.output, by simpa using t.size, fun k hk1 hne => (hk k (by omega)).trans (t.block k hk1 hne)⟩, a0, a1, a2, by simpa using a3, a4⟩

theorem DrR.first {b : Nat} (h : DrR w g q lo hi C sw cnt (some ⟨b, 0, none⟩) c L W) (z : Int) : DrR w g q lo hi C sw cnt (some ⟨b, 0, none⟩) c (L.set 0 z) (W.setCell ⟨b, 0, none⟩ (.int .i64 z)) := by
  obtain ⟨z0, r, o, d, t, a0, a1, a2, a3, a4⟩ := h
  have hb := o.2 b rfl
  have hl := (o.1.lt b rfl).1
  have o2 := o.1.stored 0 (.int .i64 z)
  have hk : ∀ k, k ≠ b → (W.setCell ⟨b, 0, none⟩ (.int .i64 z)).heap[k]? = W.heap[k]? := fun k hk => heap_setCell_other W ⟨b, 0, none⟩ k _ hk
  refine ⟨(hk _ (by omega)).trans z0, by rw [List.length_set]; exact (hk _ (by omega)).trans r, ⟨?_, fun k h => o.2 k h⟩, rdr_keep d (fun k hk2 => hk k (by omega)), ⟨t.os, t.tape, t.output, by simpa using t.size, fun k hk1 hne => (hk k (by omega)).trans (t.block k hk1 hne)⟩, a0, a1, a2, by simpa using a3, a4⟩
  rw [List.length_set, List.map_set]; exact o2.1
end

theorem own_block {w : World} {lo hi n c : Nat} {A : Option Addr} {zs : List Int} (h : Own w lo hi (.slice A n c) zs) (h0 : 0 < zs.length) : ∃ b, A = some ⟨b, 0, none⟩ := by
  obtain ⟨⟨hl, h⟩, -⟩ := h
  rcases h with ⟨e, e0⟩ | ⟨g, cap, cur, e, -⟩
  · omega
  · injection e with e1; exact ⟨g, e1⟩

set_option maxHeartbeats 800000 in
set_option maxRecDepth 100000 in
theorem room_any (g B : Nat) (n : Int) (w : World) (h : Rdr w g B) (hB : B ≤ 100000) :
    Calls Try.prog 68 #[.pointer (some ⟨g, 0, none⟩), .int .i64 n] w fun e w' => (∃ sw cnt A c L, e = .returned (.agg #[.int .i64 sw, .int .i64 cnt, .slice A L.length c]) ∧ (-9 ≤ cnt ∧ cnt ≤ 2000) ∧ L.length ≤ 5 ∧ Own w' w.heap.size w'.heap.size (.slice A L.length c) L) ∧ Rdr w' g (B + 200) ∧ Turned g (g + 1) w w' := by
  have hg := rdr_lt h
  have hz := heap_alloc_new w (.cells #[.int .i64 0, .int .i64 0, .slice none 0 0] 30)
  obtain ⟨W, hW⟩ : ∃ W : World, W = w.alloc (.cells #[.int .i64 0, .int .i64 0, .slice none 0 0] 30) := ⟨_, rfl⟩
  have hr : Rdr W g B := by rw [hW]; exact rdr_keep h (fun k hk => Below.heap_alloc _ _ _ (by omega))
  have ht : Turned g (g + 1) w W := by rw [hW]; exact turned_alloc (turned_refl _ _ _) _
  have hs : W.heap.size = w.heap.size + 1 := by rw [hW]; simp
  rw [← hW] at hz
  have HW := Lib.hid hW
  clear hW h
  go_enter Try.func68, Try.ntmps68
  go_wp2_with fail
  rw [← HW.out]
  refine (visits_any g B 0 W hr (by omega)).mono ?_
  rintro e w1 ⟨⟨P, v, zs, rfl, ⟨-, hP1, -, -, hv⟩, o1⟩, r1, t1⟩
  obtain ⟨hP0, hlz, hzs⟩ := hv (Int.le_refl 0)
  have hvis : visB P zs = true := by
    simp only [visB, inB, allB, Bool.and_eq_true, decide_eq_true_eq, List.all_eq_true]
    exact ⟨⟨hP0, hP1⟩, by omega, fun z hz => by have := hzs z hz; exact ⟨by omega, by omega⟩⟩
  have hmem := roomI_mem hvis
  have hR := o1.rd
  have hz1 := (t1.block _ (by omega) (.inr (by omega))).trans hz
  have s1 := t1.size
  have t1b := turned_trans ht t1
  clear hr ht hz HW hzs hvis o1 t1
  go_wp2_with fail
  refine (specAfterVisits_any _ zs P _ hR (by omega)).mono ?_
  rintro e w2 ⟨v2, rfl, o2, b2⟩
  obtain ⟨A, c, rfl⟩ := own_slice o2
  generalize (roomI P zs).1 = sw at *
  generalize (roomI P zs).2.1 = cnt at *
  generalize (roomI P zs).2.2 = L at *
  obtain ⟨⟨hsw0, hsw1⟩, ⟨hcn0, hcn1⟩, hLP⟩ := hmem
  have s2 := b2.size
  have hst : DrR w g w2.heap.size w1.heap.size w2.heap.size (B + 100) sw cnt A c L (w2.alloc (.cells #[.int .i64 sw, .int .i64 cnt, .slice A L.length c] 30)) := by
    have ba := (Below.refl w2.heap.size w2).alloc (Nat.le_refl _) (.cells #[.int .i64 sw, .int .i64 cnt, .slice A L.length c] 30)
    have bb := b2.trans (ba.mono (by omega))
    exact ⟨(bb.block _ (by omega)).trans hz1, heap_alloc_new _ _, o2.below ba (Nat.le_refl _), rdr_keep r1 (fun k hk => bb.block k (by omega)), turned_below t1b (bb.mono (by omega)), hg, by omega, by omega, by simp, by omega⟩
  have ST := Lib.hid hst
  have hrd := hst.rdr
  clear hst b2 o2 r1 t1b hz1 hR
  go_wp2_with fail
  refine (odd_any g (B + 100) n _ hrd (by omega)).mono ?_
  rintro e w3 ⟨b, rfl, -, r3, t3, -⟩
  have st := ST.out.turn r3 t3
  clear ST hrd r3 t3
  rcases b with _ | _
  · obtain ⟨⟨x0, x1, x2⟩, -, -, -, -⟩ := blk3 st.room
    obtain ⟨⟨y0, y1, y2⟩, f0, f1, f2, -⟩ := blk3 st.zero
    have HE := Lib.hid (st.own_end (.int .i64 sw) (.int .i64 cnt) (.slice A L.length c))
    have hne : w2.heap.size ≠ w.heap.size := by have := st.a4; omega
    clear st
    go_wp2
    obtain ⟨e1, e2, e3, e4⟩ := HE.out _ rfl
    obtain ⟨⟨j0, j1, j2⟩, -, -, -, -⟩ := blk3 e1
    refine bodyPost_ret (v := .agg #[.int .i64 sw, .int .i64 cnt, .slice A L.length c]) (by simp [results, Try.results68, go_sem, j0, j1, j2]) rfl ?_
    exact ⟨⟨_, _, _, _, L, rfl, by omega, by omega, e2⟩, rdr_more e3 (by omega), e4⟩
  · have ST := Lib.hid st
    have hrd := st.rdr
    clear st
    go_wp2_with fail
    refine (pick_any g (B + 100 + 1) 3 _ hrd (by omega)).mono ?_
    rintro e w4 ⟨q, rfl, ⟨hq0, hq1, -⟩, r4, t4, -⟩
    have hq3 := hq1 (by omega)
    have st := ST.out.turn r4 t4
    clear ST hrd r4 t4 hq1
    obtain ⟨⟨x0, x1, x2⟩, g0, g1, g2, -⟩ := blk3 st.room
    obtain ⟨⟨y0, y1, y2⟩, f0, f1, f2, -⟩ := blk3 st.zero
    have hne : w2.heap.size ≠ w.heap.size := by have := st.a4; omega
    by_cases h0 : q = 0
    · subst h0
      have HE := Lib.hid (st.own_end (.int .i64 0) (.int .i64 0) (.slice none 0 0))
      clear st
      go_wp2
      obtain ⟨e1, e2, e3, e4⟩ := HE.out _ rfl
      obtain ⟨⟨j0, j1, j2⟩, -, -, -, -⟩ := blk3 e1
      refine bodyPost_ret (v := .agg #[.int .i64 0, .int .i64 0, .slice none 0 0]) (by simp [results, Try.results68, go_sem, j0, j1, j2]) rfl ?_
      exact ⟨⟨_, _, none, 0, [], rfl, by omega, by simp, Own.new (World.ownsRow_nil _ _ _ _) (Nat.le_refl _)⟩, rdr_more e3 (by omega), e4⟩
    · have hq0' : (q == 0) = false := by simpa using h0
      by_cases h1 : q = 1
      · subst h1
        have st2 := st.count (cnt + 1)
        clear st
        have HE := Lib.hid (st2.own_end (.int .i64 sw) (.int .i64 (cnt + 1)) (.slice A L.length c))
        clear st2
        go_wp2
        obtain ⟨e1, e2, e3, e4⟩ := HE.out _ rfl
        obtain ⟨⟨j0, j1, j2⟩, -, -, -, -⟩ := blk3 e1
        refine bodyPost_ret (v := .agg #[.int .i64 sw, .int .i64 (cnt + 1), .slice A L.length c]) (by simp [results, Try.results68, go_sem, j0, j1, j2]) rfl ?_
        exact ⟨⟨_, _, _, _, L, rfl, by omega, by omega, e2⟩, rdr_more e3 (by omega), e4⟩
      · have hq1' : (q == 1) = false := by simpa using h1
        obtain ⟨b, rfl⟩ := own_block st.own (by omega)
        have c0 := st.own.1.cellAt 0 (by simp; omega)
        have f9 := st.own.1.frozenAt 0
        rw [List.getElem?_map, List.getElem?_eq_getElem (by omega)] at c0
        simp only [Option.map_some] at c0
        have st2 := st.first 1
        have hb1 := (st.own.1.lt b rfl).1
        have hb2 := st.own.2 b rfl
        have hbq : w2.heap.size ≠ b := by omega
        have hbz : w.heap.size ≠ b := by have := st.a1; omega
        have hL1 : 0 < L.length := by omega
        clear st
        have HE := Lib.hid (st2.own_end (.int .i64 sw) (.int .i64 cnt) (.slice (some ⟨b, 0, none⟩) (L.set 0 1).length c))
        clear st2
        rw [List.length_set] at HE
        go_wp2
        obtain ⟨e1, e2, e3, e4⟩ := HE.out _ rfl
        obtain ⟨⟨j0, j1, j2⟩, -, -, -, -⟩ := blk3 e1
        refine bodyPost_ret (v := .agg #[.int .i64 sw, .int .i64 cnt, .slice (some ⟨b, 0, none⟩) (L.set 0 1).length c]) (by simp [results, Try.results68, go_sem, j0, j1, j2]) rfl ?_
        exact ⟨⟨_, _, _, _, L.set 0 1, rfl, by omega, by simp; omega, by simpa using e2⟩, rdr_more e3 (by omega), e4⟩
end Go.Proofs.Ytnpfjpihcdlmhaa

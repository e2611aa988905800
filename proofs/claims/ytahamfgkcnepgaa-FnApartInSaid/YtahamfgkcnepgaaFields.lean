/- FieldsOf, of the program and of the reference. -/
import Derived.Test.YtahamfgkcnepgaaNestW
import Derived.Test.YtahamfgkcnepgaaRange
namespace Go.Proofs.Ytahamfgkcnepgaa
open Go.RowKit

theorem rowBlk {w : World} {g : Nat} {cs : Array Value} {t : TypeId} (h : w.heap[g]? = some (.cells cs t (0, 0))) (i : Nat) : w.cell? ⟨g, i, none⟩ = cs[i]? := cell_of_row w g i cs t (0, 0) h

theorem blk3 {w : World} {g : Nat} {x y z : Value} {t : TypeId} (h : w.heap[g]? = some (.cells #[x, y, z] t (0, 0))) :
    (w.cell? ⟨g, 0, none⟩ = some x ∧ w.cell? ⟨g, 1, none⟩ = some y ∧ w.cell? ⟨g, 2, none⟩ = some z) ∧ w.frozen? ⟨g, 0, none⟩ = false ∧ w.frozen? ⟨g, 1, none⟩ = false ∧ w.frozen? ⟨g, 2, none⟩ = false ∧ g < w.heap.size :=
  ⟨⟨rowBlk h 0, rowBlk h 1, rowBlk h 2⟩, frozen_of_row w g 0 _ _ h, frozen_of_row w g 1 _ _ h, frozen_of_row w g 2 _ _ h, (Array.getElem?_eq_some_iff.1 h).1⟩

theorem set3 {w : World} {g : Nat} {x y z : Value} {t : TypeId} (h : w.heap[g]? = some (.cells #[x, y, z] t (0, 0))) (x' y' z' : Value) :
    (((w.setCell ⟨g, 0, none⟩ x').setCell ⟨g, 1, none⟩ y').setCell ⟨g, 2, none⟩ z').heap[g]? = some (.cells #[x', y', z'] t (0, 0)) ∧
    Turned g (g + 1) w (((w.setCell ⟨g, 0, none⟩ x').setCell ⟨g, 1, none⟩ y').setCell ⟨g, 2, none⟩ z') ∧ (((w.setCell ⟨g, 0, none⟩ x').setCell ⟨g, 1, none⟩ y').setCell ⟨g, 2, none⟩ z').heap.size = w.heap.size := by
  have q1 := heap_setCell_same w g 0 _ _ x' h
  have q2 := heap_setCell_same _ g 1 _ _ y' q1
  have q3 := heap_setCell_same _ g 2 _ _ z' q2
  refine ⟨by simpa using q3, ⟨rfl, rfl, rfl, by simp, fun k hk hne => ?_⟩, by simp⟩
  rw [heap_setCell_other _ ⟨g, 2, none⟩ k _ (by show k ≠ g; omega), heap_setCell_other _ ⟨g, 1, none⟩ k _ (by show k ≠ g; omega), heap_setCell_other _ ⟨g, 0, none⟩ k _ (by show k ≠ g; omega)]

/-- The fields of a ship. -/
def fieldsB (r c d long : Int) : Bool := inB 1 6 long && (inB 0 1 d && (inB 0 5 r && (inB 0 5 c && (inB 0 5 (r + (long - 1) * d) && inB 0 5 (c + (long - 1) * (1 - d))))))
def fieldsL (r c d : Int) (n : Nat) : List (List Int) := (List.range n).map fun (k : Nat) => [r + k * d, c + k * (1 - d)]
def fieldsI (r c d long : Int) : List (List Int) := if fieldsB r c d long then fieldsL r c d long.toNat else []

theorem length_fieldsL (r c d : Int) (n : Nat) : (fieldsL r c d n).length = n := by simp [fieldsL]
theorem fieldsL_succ (r c d : Int) (n : Nat) : fieldsL r c d (n + 1) = fieldsL r c d n ++ [[r + n * d, c + n * (1 - d)]] := by simp [fieldsL, List.range_succ]

theorem ownR_lit (w : World) : OwnR (w.alloc (.cells #[] 49)) w.heap.size (w.heap.size + 1) (.slice (some ⟨w.heap.size, 0, none⟩) 0 0) [] [] :=
  ⟨World.ownsRow_lit w #[] 0 (Nat.le_refl _) (by simp) (by simp), fun k hk => (by injection hk with hk; subst hk; exact Nat.lt_succ_self _), fun j hj => absurd hj (by simp), fun i j k hi => absurd hi (by simp)⟩

theorem one_cellV (x : Value) (h : x.oneCell' = true) : ∀ u ∈ [x], u.oneCell' = true := fun u hu => by
  simp only [List.mem_singleton] at hu; subst hu; exact h

/-- Behind an append of one new row, of so many numbers, to rows of the call's own. -/
theorem rows_app {B lo : Nat} {w wr w' : World} {v v' : Value} {us : List Value} {zss : List (List Int)} {zs : List Int} {n : Nat} {cs : Array Value} {o : Obj} (h : OwnR wr lo wr.heap.size v us zss) (hb : Below B w wr) (hB : B ≤ lo) (hlo : lo ≤ wr.heap.size)
    (hcs : cs.toList = zs.map (Value.int .i64)) (hn : zs.length = n) (hm : n ≤ 1048576)
    (hown : w'.ownsRow lo 49 1 v' (zss.length + 1) (us ++ [.slice (some ⟨wr.heap.size, 0, none⟩) n n])) (hg : ((wr.alloc (.cells cs 3)).alloc o).grownBy w' v.ownBlock) :
    OwnR w' lo w'.heap.size v' (us ++ [.slice (some ⟨wr.heap.size, 0, none⟩) n n]) (zss ++ [zs]) ∧ Below B w w' ∧ lo ≤ w'.heap.size := by
  have hbW : Below wr.heap.size wr ((wr.alloc (.cells cs 3)).alloc o) := ((Below.refl _ _).alloc (Nat.le_refl _) _).alloc (by simp) _
  have hl : cs.size = n := by rw [← Array.length_toList, hcs, List.length_map, hn]
  have hr : (wr.alloc (.cells cs 3)).ownsRow wr.heap.size 3 1 (.slice (some ⟨wr.heap.size, 0, none⟩) n n) n cs.toList := World.ownsRow_lit wr cs n (Nat.le_refl _) (by unfold maxLen; omega) (by omega)
  rw [hcs] at hr
  have hown2 : Own (wr.alloc (.cells cs 3)) wr.heap.size (wr.heap.size + 1) (.slice (some ⟨wr.heap.size, 0, none⟩) n n) zs := Own.new (by rw [hn]; exact hr) (by simp)
  have hown3 : Own ((wr.alloc (.cells cs 3)).alloc o) wr.heap.size (wr.heap.size + 1) (.slice (some ⟨wr.heap.size, 0, none⟩) n n) zs := hown2.keep fun g _ hg => Below.heap_alloc _ _ _ (by simp; omega)
  obtain ⟨ht1, ht2⟩ := own_tight hown3
  have hs := hg.size
  have hs2 := hbW.size
  refine ⟨h.snoc (Nat.le_refl _) hbW ht1 (fun k hk => ⟨(ht2 k hk).1, ?_⟩) hown hg hlo rfl, (hb.trans (hbW.mono (by omega))).grown hg (by omega) fun k hk => ?_, by omega⟩
  · have := (ht2 k hk).2
    simp only [World.size_alloc]; omega
  · have := (h.outer.lt k hk).1; omega

theorem fields_row {w wr w' : World} {lo : Nat} {v v' : Value} {us : List Value} {r c d x y : Int} {k : Nat} {o : Obj} (h : OwnR wr lo wr.heap.size v us (fieldsL r c d k)) (hb : Below lo w wr) (hlo : lo ≤ wr.heap.size) (hx : x = r + k * d) (hy : y = c + k * (1 - d))
    (hown : w'.ownsRow lo 49 1 v' (k + 1) (us ++ [.slice (some ⟨wr.heap.size, 0, none⟩) 2 2])) (hg : ((wr.alloc (.cells #[.int .i64 x, .int .i64 y] 3)).alloc o).grownBy w' v.ownBlock) :
    OwnR w' lo w'.heap.size v' (us ++ [.slice (some ⟨wr.heap.size, 0, none⟩) 2 2]) (fieldsL r c d (k + 1)) ∧ Below lo w w' ∧ lo ≤ w'.heap.size := by
  rw [fieldsL_succ, ← hx, ← hy]
  exact rows_app h hb (Nat.le_refl _) hlo (zs := [x, y]) (by simp) (by simp) (by omega) (by rw [length_fieldsL]; exact hown) hg

set_option maxRecDepth 100000 in
theorem field_any (r c d : Int) (k : Nat) (w : World) (hr : 0 ≤ r ∧ r ≤ 5) (hc : 0 ≤ c ∧ c ≤ 5) (hd : d = 0 ∨ d = 1) (hk : k ≤ 6) :
    Calls Try.prog 60 #[.agg #[.int .i64 r, .int .i64 c, .int .i64 d], .int .i64 k] w fun e w' => e = .returned (.tuple #[.int .i64 (r + k * d), .int .i64 (c + k * (1 - d))]) ∧ Below w.heap.size w w' := by
  have hb1 : Below w.heap.size w (w.alloc (.cells #[.int .i64 r, .int .i64 c, .int .i64 d] 26)) := (Below.refl _ _).alloc (Nat.le_refl _) _
  have HB := Lib.hid hb1; clear hb1
  rcases hd with rfl | rfl
  · have e1 : r + (k : Int) * 0 = r := by omega
    have e2 : c + (k : Int) * (1 - 0) = c + k := by omega
    rw [e1, e2]
    clear e1 e2
    go_enter Try.func60, Try.ntmps60
    go_wp2
    go_quiet (fail)
    go_wp2
    go_ret2
    exact ⟨rfl, below_drewN HB.out _⟩
  · have e1 : r + (k : Int) * 1 = r + k := by omega
    have e2 : c + (k : Int) * (1 - 1) = c := by omega
    rw [e1, e2]
    clear e1 e2
    go_enter Try.func60, Try.ntmps60
    go_wp2
    go_quiet (fail)
    go_wp2
    go_ret2
    exact ⟨rfl, below_drewN HB.out _⟩

theorem fieldsB_yes {r c d long : Int} (h : fieldsB r c d long = true) : (1 ≤ long ∧ long ≤ 6) ∧ (d = 0 ∨ d = 1) ∧ (0 ≤ r ∧ r ≤ 5) ∧ (0 ≤ c ∧ c ≤ 5) ∧ r + (long - 1) * d ≤ 5 ∧ c + (long - 1) * (1 - d) ≤ 5 := by
  simp only [fieldsB, inB, Bool.and_eq_true, decide_eq_true_eq] at h
  obtain ⟨h1, h2, h3, h4, h5, h6⟩ := h
  exact ⟨h1, by omega, h3, h4, h5.2, h6.2⟩

theorem new_cell2 (wr : World) (cs : Array Value) (t1 t2 : TypeId) (U : Value) : ∀ j u, [U][j]? = some u → ((wr.alloc (.cells cs t1)).alloc (.cells #[U] t2)).cell? ((⟨wr.heap.size + 1, 0, none⟩ : Addr).add j) = some u := by
  have := one_new (wr.alloc (.cells cs t1)) U t2
  rw [World.size_alloc] at this
  exact this

set_option maxHeartbeats 800000 in
set_option maxRecDepth 100000 in
theorem specFieldsOf_any (r c d long : Int) (w : World) (hr : -9223372036854775808 ≤ r ∧ r ≤ 9223372036854775807) (hc : -9223372036854775808 ≤ c ∧ c ≤ 9223372036854775807) :
    Calls Try.prog 19 #[.agg #[.int .i64 r, .int .i64 c, .int .i64 d], .int .i64 long] w fun e w' => ∃ v us, e = .returned v ∧ OwnR w' w.heap.size w'.heap.size v us (fieldsI r c d long) ∧ Below w.heap.size w w' := by
  obtain ⟨i0, hi, hz0, hz1, hz2⟩ := info_parts infoRow
  obtain ⟨W, hW⟩ : ∃ W : World, W = w.alloc (.cells #[.int .i64 r, .int .i64 c, .int .i64 d] 26) := ⟨_, rfl⟩
  have hbW : Below w.heap.size w W := by rw [hW]; exact (Below.refl _ _).alloc (Nat.le_refl _) _
  have hsW : W.heap.size = w.heap.size + 1 := by rw [hW]; simp
  have g1 : W.heap[w.heap.size]? = some (.cells #[.int .i64 r, .int .i64 c, .int .i64 d] 26 (0, 0)) := by rw [hW]; exact heap_alloc_new _ _
  obtain ⟨W2, hW2⟩ : ∃ W2 : World, W2 = W.alloc (.cells #[] 49) := ⟨_, rfl⟩
  have hbW2 : Below W.heap.size W W2 := by rw [hW2]; exact (Below.refl _ _).alloc (Nat.le_refl _) _
  have hsW2 : W2.heap.size = w.heap.size + 2 := by rw [hW2]; simp; omega
  have o2 : OwnR W2 (w.heap.size + 1) (w.heap.size + 2) (.slice (some ⟨w.heap.size + 1, 0, none⟩) 0 0) [] [] := by
    have := ownR_lit W
    rw [hsW] at this
    rw [hW2]; exact this
  have g2 := (hbW2.block _ (by omega)).trans g1
  obtain ⟨⟨x0, x1, x2⟩, -, -, -, hz⟩ := blk3 g2
  have hHW : Hid (W2 = (w.alloc (.cells #[.int .i64 r, .int .i64 c, .int .i64 d] 26)).alloc (.cells #[] 49)) := by rw [hW2, hW]; rfl
  have HB := Lib.hid (hbW.trans (hbW2.mono (by omega)))
  have HO := Lib.hid o2
  have HG := Lib.hid g2
  have hbad : fieldsB r c d long = false → OwnR W2 w.heap.size W2.heap.size (.slice (some ⟨w.heap.size + 1, 0, none⟩) 0 0) [] (fieldsI r c d long) := fun h => by
    unfold fieldsI; rw [h, if_neg (by simp)]
    exact HO.out.wide (by omega) (by omega)
  have HBAD := Lib.hid hbad
  clear hW hW2 g1 g2 hbW hbW2 o2 hbad
  go_enter Try.func19, Try.ntmps19
  go_wp2_with fail
  rw [hsW] at *
  rw [← hHW.out]
  refine (l1In_any _ _ _ _).mono ?_
  rintro e w' ⟨rfl, rfl⟩
  rcases Bool.eq_false_or_eq_true (inB 1 6 long) with b1 | b1
  rotate_left
  · rw [b1]
    have HF : Hid (fieldsB r c d long = false) := by unfold Hid fieldsB; simp [b1]
    clear b1
    go_wp2_with fail
    go_ret
    exact ⟨_, _, rfl, HBAD.out HF.out, HB.out⟩
  rw [b1]
  go_wp2_with fail
  refine (l1In_any _ _ _ _).mono ?_
  rintro e w3 ⟨rfl, rfl⟩
  rcases Bool.eq_false_or_eq_true (inB 0 1 d) with b2 | b2
  rotate_left
  · rw [b2]
    have HF : Hid (fieldsB r c d long = false) := by unfold Hid fieldsB; simp [b1, b2]
    clear b1 b2
    go_wp2_with fail
    go_ret
    exact ⟨_, _, rfl, HBAD.out HF.out, HB.out⟩
  rw [b2]
  go_wp2_with fail
  refine (l1In_any _ _ _ _).mono ?_
  rintro e w3 ⟨rfl, rfl⟩
  rcases Bool.eq_false_or_eq_true (inB 0 5 r) with b3 | b3
  rotate_left
  · rw [b3]
    have HF : Hid (fieldsB r c d long = false) := by unfold Hid fieldsB; simp [b1, b2, b3]
    clear b1 b2 b3
    go_wp2_with fail
    go_ret
    exact ⟨_, _, rfl, HBAD.out HF.out, HB.out⟩
  rw [b3]
  go_wp2_with fail
  refine (l1In_any _ _ _ _).mono ?_
  rintro e w3 ⟨rfl, rfl⟩
  rcases Bool.eq_false_or_eq_true (inB 0 5 c) with b4 | b4
  rotate_left
  · rw [b4]
    have HF : Hid (fieldsB r c d long = false) := by unfold Hid fieldsB; simp [b1, b2, b3, b4]
    clear b1 b2 b3 b4
    go_wp2_with fail
    go_ret
    exact ⟨_, _, rfl, HBAD.out HF.out, HB.out⟩
  rw [b4]
  have hlong := inB_in b1
  have hr5 := inB_in b3
  have hc5 := inB_in b4
  obtain ⟨N, rfl⟩ := Int.eq_ofNat_of_zero_le (a := long) (by omega)
  have hN : N ≤ 6 := by omega
  have hd : d = 0 ∨ d = 1 := by have := inB_in b2; omega
  rcases hd with rfl | rfl
  · go_wp2_with fail
    refine (l1In_any _ _ _ _).mono ?_
    rintro e w3 ⟨rfl, rfl⟩
    try rw [show r + ((N : Int) - 1) * 0 = r from by omega]
    rw [b3]
    go_wp2_with fail
    refine (l1In_any _ _ _ _).mono ?_
    rintro e w3 ⟨rfl, rfl⟩
    try rw [show c + ((N : Int) - 1) * 1 = c + ((N : Int) - 1) from by omega]
    try rw [show c + ((N : Int) - 1) * (1 - 0) = c + ((N : Int) - 1) from by omega]
    rcases Bool.eq_false_or_eq_true (inB 0 5 (c + ((N : Int) - 1))) with b5 | b5
    rotate_left
    · rw [b5]
      have HF : Hid (fieldsB r c 0 N = false) := by unfold Hid fieldsB; simp [b1, b2, b3, b4, b5]
      clear b1 b2 b3 b4 b5
      go_wp2_with fail
      go_ret
      exact ⟨_, _, rfl, HBAD.out HF.out, HB.out⟩
    rw [b5]
    have hlast := (inB_in b5).2
    have HF : Hid (fieldsI r c 0 N = fieldsL r c 0 N) := by
      have : fieldsB r c 0 N = true := by unfold fieldsB; simp [b1, b2, b3, b4, b5]
      unfold Hid fieldsI; rw [if_pos this]; rfl
    clear b1 b2 b3 b4 b5 hlong
    go_wp2_with fail
    go_loopw [5, 6] (fun v i wr => ∃ (k : Nat) (us : List Value), k ≤ N ∧ i = .int .i64 k ∧ OwnR wr (w.heap.size + 1) wr.heap.size v us (fieldsL r c 0 k) ∧ Below (w.heap.size + 1) w3 wr ∧ w.heap.size + 1 ≤ wr.heap.size) (fun _ i _ => N - (intOf i).toNat)
    case atStart => exact ⟨0, [], Nat.zero_le _, rfl, HO.out.wide (Nat.le_refl _) (by omega), Below.refl _ _, by omega⟩
    case round =>
      obtain ⟨k, us, hk, rfl, hr, hbr, hsr⟩ := hrel
      by_cases hlt : k < N
      · clear x0 x1 x2
        obtain ⟨⟨x0, x1, x2⟩, -, -, -, hz⟩ := blk3 ((hbr.block _ (by omega)).trans HG.out)
        have hll := length_fieldsL r c 0 k
        go_wp2_with (first | (at_builtin; go_loud (refine wpList_append_own _ rfl _ _ 24 rfl (w.heap.size + 1) 49 i0 (.slice none 0 0) 1 24 Try.underlying24 hi hz0 hz1 hz2 rfl (by decide) _ _ _ rfl ((hr.outer.alloc _).alloc _) ⟨wr.heap.size + 1, 0, none⟩ 1 1 [.slice (some ⟨wr.heap.size, 0, none⟩) 2 2] rfl rfl (new_cell2 _ _ _ _ _) (one_cellV _ rfl) ?c2 ?c3 ?c4 ?_)) | go_in)
        case c2 => unfold maxLen; omega
        case c3 => omega
        case c4 => simp; omega
        intro v' w4 hown' hgr _
        have hnew := fields_row hr hbr hsr (by omega) (by omega) hown' hgr
        have HN := Lib.hid hnew
        clear hnew hown' hgr hr hbr hsr hz0 hz1 hz2 hi
        go_wp2
        go_roundw
        case rel => exact ⟨k + 1, _, by omega, by go_num, HN.out.1, HN.out.2.1, HN.out.2.2⟩
        case measure => simp [intOf]; omega
      · have hk' : k = N := by omega
        subst hk'
        have HR := Lib.hid hr
        have HE := Lib.hid (HB.out.trans (hbr.mono (Nat.le_succ _)))
        clear hr hbr
        go_wp2
        go_ret
        exact ⟨_, _, rfl, by rw [HF.out]; exact HR.out.wide (Nat.le_succ _) (Nat.le_refl _), HE.out⟩
  · go_wp2_with fail
    refine (l1In_any _ _ _ _).mono ?_
    rintro e w3 ⟨rfl, rfl⟩
    try rw [show r + ((N : Int) - 1) * 1 = r + ((N : Int) - 1) from by omega]
    rcases Bool.eq_false_or_eq_true (inB 0 5 (r + ((N : Int) - 1))) with b5 | b5
    rotate_left
    · rw [b5]
      have HF : Hid (fieldsB r c 1 N = false) := by unfold Hid fieldsB; simp [b1, b2, b3, b4, b5]
      clear b1 b2 b3 b4 b5
      go_wp2_with fail
      go_ret
      exact ⟨_, _, rfl, HBAD.out HF.out, HB.out⟩
    rw [b5]
    go_wp2_with fail
    refine (l1In_any _ _ _ _).mono ?_
    rintro e w3 ⟨rfl, rfl⟩
    try rw [show c + ((N : Int) - 1) * 0 = c from by omega]
    try rw [show c + ((N : Int) - 1) * (1 - 1) = c from by omega]
    rw [b4]
    have hlast := (inB_in b5).2
    have HF : Hid (fieldsI r c 1 N = fieldsL r c 1 N) := by
      have : fieldsB r c 1 N = true := by unfold fieldsB; simp [b1, b2, b3, b4, b5]
      unfold Hid fieldsI; rw [if_pos this]; rfl
    clear b1 b2 b3 b4 b5 hlong
    go_wp2_with fail
    go_loopw [5, 6] (fun v i wr => ∃ (k : Nat) (us : List Value), k ≤ N ∧ i = .int .i64 k ∧ OwnR wr (w.heap.size + 1) wr.heap.size v us (fieldsL r c 1 k) ∧ Below (w.heap.size + 1) w3 wr ∧ w.heap.size + 1 ≤ wr.heap.size) (fun _ i _ => N - (intOf i).toNat)
    case atStart => exact ⟨0, [], Nat.zero_le _, rfl, HO.out.wide (Nat.le_refl _) (by omega), Below.refl _ _, by omega⟩
    case round =>
      obtain ⟨k, us, hk, rfl, hr, hbr, hsr⟩ := hrel
      by_cases hlt : k < N
      · clear x0 x1 x2
        obtain ⟨⟨x0, x1, x2⟩, -, -, -, hz⟩ := blk3 ((hbr.block _ (by omega)).trans HG.out)
        have hll := length_fieldsL r c 1 k
        go_wp2_with (first | (at_builtin; go_loud (refine wpList_append_own _ rfl _ _ 24 rfl (w.heap.size + 1) 49 i0 (.slice none 0 0) 1 24 Try.underlying24 hi hz0 hz1 hz2 rfl (by decide) _ _ _ rfl ((hr.outer.alloc _).alloc _) ⟨wr.heap.size + 1, 0, none⟩ 1 1 [.slice (some ⟨wr.heap.size, 0, none⟩) 2 2] rfl rfl (new_cell2 _ _ _ _ _) (one_cellV _ rfl) ?c2 ?c3 ?c4 ?_)) | go_in)
        case c2 => unfold maxLen; omega
        case c3 => omega
        case c4 => simp; omega
        intro v' w4 hown' hgr _
        have hnew := fields_row hr hbr hsr (by omega) (by omega) hown' hgr
        have HN := Lib.hid hnew
        clear hnew hown' hgr hr hbr hsr hz0 hz1 hz2 hi
        go_wp2
        go_roundw
        case rel => exact ⟨k + 1, _, by omega, by go_num, HN.out.1, HN.out.2.1, HN.out.2.2⟩
        case measure => simp [intOf]; omega
      · have hk' : k = N := by omega
        subst hk'
        have HR := Lib.hid hr
        have HE := Lib.hid (HB.out.trans (hbr.mono (Nat.le_succ _)))
        clear hr hbr
        go_wp2
        go_ret
        exact ⟨_, _, rfl, by rw [HF.out]; exact HR.out.wide (Nat.le_succ _) (Nat.le_refl _), HE.out⟩

set_option maxHeartbeats 800000 in
set_option maxRecDepth 100000 in
theorem implFieldsOf_any (r c d long : Int) (w : World) :
    Calls Try.prog 21 #[.agg #[.int .i64 r, .int .i64 c, .int .i64 d], .int .i64 long] w fun e w' => ∃ v us, e = .returned v ∧ OwnR w' w.heap.size w'.heap.size v us (fieldsI r c d long) ∧ Below w.heap.size w w' := by
  obtain ⟨i0, hi, hz0, hz1, hz2⟩ := info_parts infoRow
  obtain ⟨W, hW⟩ : ∃ W : World, W = w.alloc (.cells #[.int .i64 r, .int .i64 c, .int .i64 d] 26) := ⟨_, rfl⟩
  have hbW : Below w.heap.size w W := by rw [hW]; exact (Below.refl _ _).alloc (Nat.le_refl _) _
  have hsW : W.heap.size = w.heap.size + 1 := by rw [hW]; simp
  have g1 : W.heap[w.heap.size]? = some (.cells #[.int .i64 r, .int .i64 c, .int .i64 d] 26 (0, 0)) := by rw [hW]; exact heap_alloc_new _ _
  obtain ⟨⟨x0, x1, x2⟩, -, -, -, hz⟩ := blk3 g1
  have hHW := Lib.hid hW
  have HB := Lib.hid hbW
  have HG := Lib.hid g1
  clear hW g1 hbW
  go_enter Try.func21, Try.ntmps21
  go_wp2_with fail
  rw [← hHW.out]
  refine (in_any _ _ _ _).mono ?_
  rintro e w3 ⟨rfl, rfl⟩
  rcases Bool.eq_false_or_eq_true (inB 1 6 long) with b1 | b1
  rotate_left
  · rw [b1]
    have HF : Hid (fieldsI r c d long = []) := by
      have : fieldsB r c d long = false := by unfold fieldsB; simp [b1]
      unfold Hid fieldsI; rw [this]; rfl
    clear b1
    go_wp2_with fail
    go_ret
    exact ⟨_, [], rfl, by rw [HF.out]; exact ownR_nil _ _ _, HB.out⟩
  rw [b1]
  go_wp2_with fail
  refine (in_any _ _ _ _).mono ?_
  rintro e w3 ⟨rfl, rfl⟩
  rcases Bool.eq_false_or_eq_true (inB 0 1 d) with b2 | b2
  rotate_left
  · rw [b2]
    have HF : Hid (fieldsI r c d long = []) := by
      have : fieldsB r c d long = false := by unfold fieldsB; simp [b1, b2]
      unfold Hid fieldsI; rw [this]; rfl
    clear b1 b2
    go_wp2_with fail
    go_ret
    exact ⟨_, [], rfl, by rw [HF.out]; exact ownR_nil _ _ _, HB.out⟩
  rw [b2]
  go_wp2_with fail
  refine (in_any _ _ _ _).mono ?_
  rintro e w3 ⟨rfl, rfl⟩
  rcases Bool.eq_false_or_eq_true (inB 0 5 r) with b3 | b3
  rotate_left
  · rw [b3]
    have HF : Hid (fieldsI r c d long = []) := by
      have : fieldsB r c d long = false := by unfold fieldsB; simp [b1, b2, b3]
      unfold Hid fieldsI; rw [this]; rfl
    clear b1 b2 b3
    go_wp2_with fail
    go_ret
    exact ⟨_, [], rfl, by rw [HF.out]; exact ownR_nil _ _ _, HB.out⟩
  rw [b3]
  go_wp2_with fail
  refine (in_any _ _ _ _).mono ?_
  rintro e w3 ⟨rfl, rfl⟩
  rcases Bool.eq_false_or_eq_true (inB 0 5 c) with b4 | b4
  rotate_left
  · rw [b4]
    have HF : Hid (fieldsI r c d long = []) := by
      have : fieldsB r c d long = false := by unfold fieldsB; simp [b1, b2, b3, b4]
      unfold Hid fieldsI; rw [this]; rfl
    clear b1 b2 b3 b4
    go_wp2_with fail
    go_ret
    exact ⟨_, [], rfl, by rw [HF.out]; exact ownR_nil _ _ _, HB.out⟩
  rw [b4]
  have hlong := inB_in b1
  have hr5 := inB_in b3
  have hc5 := inB_in b4
  obtain ⟨N, rfl⟩ := Int.eq_ofNat_of_zero_le (a := long) (by omega)
  have hN : N ≤ 6 := by omega
  have hd : d = 0 ∨ d = 1 := by have := inB_in b2; omega
  have hno : ∀ k : Nat, k < N → (6 ≤ r + k * d ∨ 6 ≤ c + k * (1 - d)) → fieldsI r c d N = [] := fun k hk h => by
    have : fieldsB r c d N = false := by
      cases hb : fieldsB r c d N with
      | false => rfl
      | true =>
        obtain ⟨_, _, _, _, q1, q2⟩ := fieldsB_yes hb
        rcases hd with rfl | rfl <;> omega
    unfold fieldsI; rw [this]; rfl
  have hyes : (∀ k : Nat, k < N → r + k * d ≤ 5 ∧ c + k * (1 - d) ≤ 5) → fieldsI r c d N = fieldsL r c d N := fun h => by
    have h1 := h (N - 1) (by omega)
    have e : ((N - 1 : Nat) : Int) = (N : Int) - 1 := by omega
    rw [e] at h1
    have h2 : 0 ≤ r + ((N : Int) - 1) * d ∧ 0 ≤ c + ((N : Int) - 1) * (1 - d) := by rcases hd with rfl | rfl <;> omega
    have : fieldsB r c d N = true := by
      unfold fieldsB
      rw [b1, b2, b3, b4, inB_true h2.1 h1.1, inB_true h2.2 h1.2]; rfl
    unfold fieldsI; rw [if_pos this]; rfl
  have HNO := Lib.hid hno; have HYES := Lib.hid hyes; have HD := Lib.hid hd
  clear hno hyes b1 b2 b3 b4 hlong hd
  go_wp2_with fail
  go_loopw [5, 31] (fun v i wr => ∃ (k : Nat) (us : List Value), k ≤ N ∧ i = .int .i64 k ∧ OwnR wr (w.heap.size + 1) wr.heap.size v us (fieldsL r c d k) ∧ Below (w.heap.size + 1) w3 wr ∧ w.heap.size + 1 ≤ wr.heap.size ∧ Hid (∀ j : Nat, j < k → r + j * d ≤ 5 ∧ c + j * (1 - d) ≤ 5)) (fun _ i _ => N - (intOf i).toNat)
  case atStart => exact ⟨0, [], Nat.zero_le _, rfl, ownR_nil _ _ _, Below.refl _ _, by omega, fun j hj => absurd hj (by omega)⟩
  case round =>
    obtain ⟨k, us, hk, rfl, hr, hbr, hsr, hall⟩ := hrel
    by_cases hlt : k < N
    · clear x0 x1 x2 hz
      obtain ⟨⟨x0, x1, x2⟩, -, -, -, hz⟩ := blk3 ((hbr.block _ (by omega)).trans HG.out)
      go_wp2_with fail
      refine (field_any r c d k _ hr5 hc5 HD.out (by omega)).mono ?_
      rintro e w4 ⟨rfl, b4⟩
      have hr4 := (hr.below b4 (Nat.le_refl _)).wide (Nat.le_refl _) b4.size
      have hb4 := hbr.trans (b4.mono hsr)
      have s4 : w.heap.size + 1 ≤ w4.heap.size := Nat.le_trans hsr b4.size
      have HOK : Hid (∀ x y : Int, x = r + k * d → y = c + k * (1 - d) → (6 ≤ x ∨ 6 ≤ y → fieldsI r c d N = []) ∧ (x ≤ 5 → y ≤ 5 → ∀ j : Nat, j < k + 1 → r + j * d ≤ 5 ∧ c + j * (1 - d) ≤ 5)) := fun x y hx hy => by
        subst hx hy
        refine ⟨HNO.out k hlt, fun h1 h2 j hj => ?_⟩
        by_cases hjk : j < k
        · exact hall.out j hjk
        · have : j = k := by omega
          subst this; exact ⟨h1, h2⟩
      obtain ⟨x, hx⟩ : ∃ x, x = r + (k : Int) * d := ⟨_, rfl⟩
      obtain ⟨y, hy⟩ : ∃ y, y = c + (k : Int) * (1 - d) := ⟨_, rfl⟩
      rw [← hx, ← hy]
      have HX := Lib.hid hx; have HY := Lib.hid hy
      clear hx hy x0 x1 x2 hz hr hbr b4
      by_cases h6 : 6 ≤ x
      · have HE := Lib.hid (HB.out.trans (hb4.mono (Nat.le_succ _)))
        clear hb4 hr4
        go_wp2
        go_ret
        exact ⟨_, [], rfl, by rw [(HOK.out x y HX.out HY.out).1 (.inl h6)]; exact ownR_nil _ _ _, HE.out⟩
      · by_cases h7 : 6 ≤ y
        · have HE := Lib.hid (HB.out.trans (hb4.mono (Nat.le_succ _)))
          clear hb4 hr4
          go_wp2
          go_ret
          exact ⟨_, [], rfl, by rw [(HOK.out x y HX.out HY.out).1 (.inr h7)]; exact ownR_nil _ _ _, HE.out⟩
        · have hll := length_fieldsL r c d k
          go_wp2_with (first | (at_builtin; go_loud (refine wpList_append_own _ rfl _ _ 24 rfl (w.heap.size + 1) 49 i0 (.slice none 0 0) 1 24 Try.underlying24 hi hz0 hz1 hz2 rfl (by decide) _ _ _ rfl ((hr4.outer.alloc _).alloc _) ⟨w4.heap.size + 1, 0, none⟩ 1 1 [.slice (some ⟨w4.heap.size, 0, none⟩) 2 2] rfl rfl (new_cell2 _ _ _ _ _) (one_cellV _ rfl) ?c2 ?c3 ?c4 ?_)) | go_in)
          case c2 => unfold maxLen; omega
          case c3 => omega
          case c4 => simp; omega
          intro v' w5 hown' hgr _
          have hnew := fields_row hr4 hb4 s4 HX.out HY.out hown' hgr
          have HN := Lib.hid hnew
          have HALL := Lib.hid ((HOK.out x y HX.out HY.out).2 (by omega) (by omega))
          clear hnew hown' hgr hr4 hb4 s4 hz0 hz1 hz2 hi
          go_wp2
          go_roundw
          case rel => exact ⟨k + 1, _, by omega, by go_num, HN.out.1, HN.out.2.1, HN.out.2.2, HALL⟩
          case measure => simp [intOf]; omega
    · have hk' : k = N := by omega
      subst hk'
      have HR := Lib.hid hr
      have HE := Lib.hid (HB.out.trans (hbr.mono (Nat.le_succ _)))
      clear hr hbr
      go_wp2
      go_ret
      exact ⟨_, _, rfl, by rw [HYES.out hall.out]; exact HR.out.wide (Nat.le_succ _) (Nat.le_refl _), HE.out⟩
end Go.Proofs.Ytahamfgkcnepgaa

/- Places in memory: plain words, and the walks of the helpers on lists of places. -/
import Derived.Test.YtahamfgkcnepgaaFields
import Derived.Deep.RegionHeld3
namespace Go.Proofs.Ytahamfgkcnepgaa
open Go.RowKit

theorem infoPlace : (Try.prog.info? 26).map (fun i => (i.zero, i.size, i.bytes)) = some (some (.agg #[.int .i64 0, .int .i64 0, .int .i64 0]), 3, 24) := by kernel_rfl

abbrev Pl := Int × Int × Int
def cellsP : List Pl → List Value
  | [] => []
  | p :: l => .int .i64 p.1 :: .int .i64 p.2.1 :: .int .i64 p.2.2 :: cellsP l
theorem length_cellsP : ∀ ps : List Pl, (cellsP ps).length = ps.length * 3
  | [] => rfl
  | p :: l => by simp only [cellsP, List.length_cons, length_cellsP l]; omega
theorem cellsP_append : ∀ a b : List Pl, cellsP (a ++ b) = cellsP a ++ cellsP b
  | [], b => rfl
  | p :: l, b => by simp only [List.cons_append, cellsP, cellsP_append l b]
theorem cellsP_at : ∀ (ps : List Pl) (j : Nat), j < ps.length → (cellsP ps)[j * 3]? = some (.int .i64 (ps.getD j (0, 0, 0)).1) ∧ (cellsP ps)[j * 3 + 1]? = some (.int .i64 (ps.getD j (0, 0, 0)).2.1) ∧ (cellsP ps)[j * 3 + 2]? = some (.int .i64 (ps.getD j (0, 0, 0)).2.2)
  | [], j, h => absurd h (by simp)
  | p :: l, 0, _ => ⟨rfl, rfl, rfl⟩
  | p :: l, j + 1, h => by
    have := cellsP_at l j (by simpa using h)
    rw [show (j + 1) * 3 = j * 3 + 1 + 1 + 1 from by omega]
    simpa [cellsP] using this

/-- The value v is a slice that reads as the places ps. -/
def RdP (w : World) (v : Value) (ps : List Pl) : Prop :=
  ∃ a cap, v = .slice a ps.length cap ∧ ps.length ≤ cap ∧ cap ≤ 9223372036854775807 ∧
    (0 < ps.length → ∃ g off, a = some ⟨g, off, none⟩ ∧ g < w.heap.size ∧ ∀ j, j < ps.length → w.cell? ⟨g, off + j * 3, none⟩ = some (.int .i64 (ps.getD j (0, 0, 0)).1) ∧ w.cell? ⟨g, off + j * 3 + 1, none⟩ = some (.int .i64 (ps.getD j (0, 0, 0)).2.1) ∧ w.cell? ⟨g, off + j * 3 + 2, none⟩ = some (.int .i64 (ps.getD j (0, 0, 0)).2.2))

theorem RdP.below {w w' : World} {v : Value} {ps : List Pl} (h : RdP w v ps) (hb : Below w.heap.size w w') : RdP w' v ps := by
  obtain ⟨a, cap, rfl, h1, h2, h3⟩ := h
  refine ⟨a, cap, rfl, h1, h2, fun h0 => ?_⟩
  obtain ⟨g, off, rfl, hg, hc⟩ := h3 h0
  refine ⟨g, off, rfl, Nat.lt_of_lt_of_le hg hb.size, fun j hj => ?_⟩
  obtain ⟨c0, c1, c2⟩ := hc j hj
  exact ⟨(hb.cell (p := ⟨g, off + j * 3, none⟩) hg).trans c0, (hb.cell (p := ⟨g, off + j * 3 + 1, none⟩) hg).trans c1, (hb.cell (p := ⟨g, off + j * 3 + 2, none⟩) hg).trans c2⟩
theorem RdP.drewN {w : World} {v : Value} {ps : List Pl} (h : RdP w v ps) (n : Nat) : RdP (w.drewN n) v ps := h

theorem rdP_at {w : World} {a : Option Addr} {ps : List Pl} (h : 0 < ps.length → ∃ g off, a = some ⟨g, off, none⟩ ∧ g < w.heap.size ∧ ∀ j, j < ps.length → w.cell? ⟨g, off + j * 3, none⟩ = some (.int .i64 (ps.getD j (0, 0, 0)).1) ∧ w.cell? ⟨g, off + j * 3 + 1, none⟩ = some (.int .i64 (ps.getD j (0, 0, 0)).2.1) ∧ w.cell? ⟨g, off + j * 3 + 2, none⟩ = some (.int .i64 (ps.getD j (0, 0, 0)).2.2)) (k : Nat) (hk : k < ps.length) :
    ∃ g off x y z, a = some ⟨g, off, none⟩ ∧ g < w.heap.size ∧ (w.cell? ⟨g, off + k * 3, none⟩ = some (.int .i64 x) ∧ w.cell? ⟨g, off + k * 3 + 1, none⟩ = some (.int .i64 y) ∧ w.cell? ⟨g, off + k * 3 + 2, none⟩ = some (.int .i64 z)) ∧ Hid ((x, y, z) = ps.getD k (0, 0, 0)) := by
  obtain ⟨g, off, h1, h2, h3⟩ := h (by omega)
  exact ⟨g, off, _, _, _, h1, h2, h3 k hk, rfl⟩

/-- The value v is a slice of the call's own, in a block from lo on and below hi, that holds the places ps. -/
def OwnP (w : World) (lo hi : Nat) (v : Value) (ps : List Pl) : Prop := w.ownsRow lo 26 3 v ps.length (cellsP ps) ∧ ∀ k, v.ownBlock = some k → k < hi

theorem OwnP.rd {w : World} {lo hi : Nat} {v : Value} {ps : List Pl} (h : OwnP w lo hi v ps) : RdP w v ps := by
  obtain ⟨⟨hl, h⟩, _⟩ := h
  rcases h with ⟨rfl, h0⟩ | ⟨g, cap, cur, rfl, hg, hh, hn, hm, hsz, ht⟩
  · exact ⟨none, 0, by rw [h0], by omega, by omega, fun h => by omega⟩
  · refine ⟨_, cap, rfl, hn, by unfold maxLen at hm; omega, fun _ => ⟨g, 0, rfl, (Array.getElem?_eq_some_iff.1 hh).1, fun j hj => ?_⟩⟩
    have hat : ∀ i, i < ps.length * 3 → w.cell? ⟨g, 0 + i, none⟩ = (cellsP ps)[i]? := fun i hi => by
      rw [cell_of_row w g (0 + i) cur _ (0, 0) hh]
      have e : (cur.toList.take (ps.length * 3))[i]? = (cellsP ps)[i]? := by rw [ht]
      rw [List.getElem?_take, if_pos (by omega)] at e
      rw [Nat.zero_add, ← Array.getElem?_toList, e]
    obtain ⟨c0, c1, c2⟩ := cellsP_at ps j hj
    exact ⟨(hat (j * 3) (by omega)).trans c0, (hat (j * 3 + 1) (by omega)).trans c1, (hat (j * 3 + 2) (by omega)).trans c2⟩

theorem OwnP.keep {w w' : World} {lo hi : Nat} {v : Value} {ps : List Pl} (h : OwnP w lo hi v ps) (hk : ∀ g, lo ≤ g → g < hi → w'.heap[g]? = w.heap[g]?) : OwnP w' lo hi v ps := by
  obtain ⟨⟨hl, h⟩, hb⟩ := h
  refine ⟨⟨hl, ?_⟩, hb⟩
  rcases h with h | ⟨g, cap, cur, rfl, hg, hh, r⟩
  · exact .inl h
  · exact .inr ⟨g, cap, cur, rfl, hg, by rw [hk g hg (hb g rfl)]; exact hh, r⟩
theorem OwnP.below {w w' : World} {lo hi : Nat} {v : Value} {ps : List Pl} (h : OwnP w lo hi v ps) {B : Nat} (hb : Below B w w') (hB : hi ≤ B) : OwnP w' lo hi v ps := h.keep fun g _ hg => hb.block g (by omega)
theorem OwnP.turned {w w' : World} {lo hi lo' hi' : Nat} {v : Value} {ps : List Pl} (h : OwnP w lo hi v ps) (hb : Turned lo' hi' w w') (hh : hi ≤ w.heap.size) (hd : hi ≤ lo' ∨ hi' ≤ lo) : OwnP w' lo hi v ps :=
  h.keep fun g _ _ => hb.block g (by omega) (by omega)
theorem OwnP.wide {w : World} {lo hi lo' hi' : Nat} {v : Value} {ps : List Pl} (h : OwnP w lo hi v ps) (h1 : lo' ≤ lo) (h2 : hi ≤ hi') : OwnP w lo' hi' v ps :=
  ⟨⟨h.1.1, by rcases h.1.2 with h | ⟨g, cap, cur, e, hg, r⟩; exact .inl h; exact .inr ⟨g, cap, cur, e, by omega, r⟩⟩, fun k hk => Nat.lt_of_lt_of_le (h.2 k hk) h2⟩
theorem OwnP.new {w : World} {lo hi : Nat} {v : Value} {ps : List Pl} (h : w.ownsRow lo 26 3 v ps.length (cellsP ps)) (hh : w.heap.size ≤ hi) : OwnP w lo hi v ps :=
  ⟨h, fun k hk => Nat.lt_of_lt_of_le (h.lt k hk).2 hh⟩
theorem ownP_nil (w : World) (lo hi : Nat) : OwnP w lo hi (.slice none 0 0) [] := ⟨World.ownsRow_nil _ _ _ _, fun k hk => (by cases hk)⟩

/-- Behind an append of one place to places of the call's own. -/
theorem place_app {B lo : Nat} {w wr w' : World} {v v' : Value} {ps : List Pl} {p : Pl} {o : Obj} (h : OwnP wr lo wr.heap.size v ps) (hb : Below B w wr) (hB : B ≤ lo) (hlo : lo ≤ wr.heap.size)
    (hown : w'.ownsRow lo 26 3 v' (ps.length + 1) (cellsP ps ++ [.int .i64 p.1, .int .i64 p.2.1, .int .i64 p.2.2])) (hg : (wr.alloc o).grownBy w' v.ownBlock) :
    OwnP w' lo w'.heap.size v' (ps ++ [p]) ∧ Below B w w' ∧ lo ≤ w'.heap.size := by
  have hs := hg.size
  rw [World.size_alloc] at hs
  refine ⟨OwnP.new (by rw [cellsP_append, List.length_append]; exact hown) (Nat.le_refl _), (hb.alloc (by omega) o).grown hg (by simp; omega) (fun k hk => by have := (h.1.lt k hk).1; omega), by omega⟩

theorem three_new (w : World) (x y z : Value) (t : TypeId) : ∀ j u, [x, y, z][j]? = some u → (w.alloc (.cells #[x, y, z] t)).cell? ((⟨w.heap.size, 0, none⟩ : Addr).add j) = some u := by
  intro j u hu
  have e : (⟨w.heap.size, 0, none⟩ : Addr).add j = ⟨w.heap.size, 0 + j, none⟩ := by unfold Addr.add; split <;> simp_all
  rw [e, World.cell?_alloc_at _ _ _ _ rfl, Nat.zero_add]
  simpa using hu
theorem three_cell (x y z : Int) : ∀ u ∈ [Value.int .i64 x, .int .i64 y, .int .i64 z], u.oneCell' = true := fun u hu => by
  simp only [List.mem_cons, List.not_mem_nil, or_false] at hu
  rcases hu with rfl | rfl | rfl <;> rfl

set_option maxRecDepth 100000 in
theorem eqPlace_true (x y z : Int) (w : World) :
    Calls Try.prog 71 #[.agg #[.int .i64 x, .int .i64 y, .int .i64 z], .agg #[.int .i64 x, .int .i64 y, .int .i64 z]] w fun e w' => e = .returned (.bool true) ∧ Below w.heap.size w w' := by
  have hb2 : Below w.heap.size w ((w.alloc (.cells #[.int .i64 x, .int .i64 y, .int .i64 z] 26)).alloc (.cells #[.int .i64 x, .int .i64 y, .int .i64 z] 26)) := ((Below.refl _ _).alloc (Nat.le_refl _) _).alloc (by simp) _
  have HB := Lib.hid hb2; clear hb2
  go_enter Try.func71, Try.ntmps71
  go_wp2
  go_ret
  exact ⟨rfl, HB.out⟩

set_option maxRecDepth 100000 in
theorem eqPlaceS_true (v1 v2 : Value) (ps : List Pl) (w : World) (h1 : RdP w v1 ps) (h2 : RdP w v2 ps) :
    Calls Try.prog 31 #[v1, v2] w fun e w' => e = .returned (.bool true) ∧ Below w.heap.size w w' := by
  have HR1 := Lib.hid h1; have HR2 := Lib.hid h2
  obtain ⟨a1, c1, rfl, l1, m1, -⟩ := h1
  obtain ⟨a2, c2, rfl, l2, m2, -⟩ := h2
  go_enter Try.func31, Try.ntmps31
  go_wp2
  go_loopw [5] (fun i wr => ∃ k : Nat, k ≤ ps.length ∧ i = .int .i64 k ∧ Below w.heap.size w wr) (fun i _ => ps.length - (intOf i).toNat)
  case atStart => exact ⟨0, Nat.zero_le _, rfl, Below.refl _ _⟩
  case round =>
    obtain ⟨k, hk, rfl, hb⟩ := hrel
    by_cases hlt : k < ps.length
    · obtain ⟨_, _, e1, _, _, r1⟩ := HR1.out.below hb
      obtain ⟨_, _, e2, _, _, r2⟩ := HR2.out.below hb
      injection e1 with e3 e4 e5; subst e3 e5
      injection e2 with e6 e7 e8; subst e6 e8
      obtain ⟨g1, o1, x, y, z, rfl, hg1, ⟨q0, q1, q2⟩, Z1⟩ := rdP_at r1 k hlt
      obtain ⟨g2, o2, x', y', z', rfl, hg2, ⟨p0, p1, p2⟩, Z2⟩ := rdP_at r2 k hlt
      have e9 := Z1.out.trans Z2.out.symm
      injection e9 with e9 e10
      injection e10 with e10 e11
      subst e9 e10 e11
      have HB := Lib.hid hb
      clear r1 r2 Z1 Z2 hb e4 e7
      go_wp2
      go_region_held3 (fun wx => wx.cell? ⟨g1, o1 + k * 3, none⟩ = some (.int .i64 x) ∧ wx.cell? ⟨g1, o1 + k * 3 + 1, none⟩ = some (.int .i64 y) ∧ wx.cell? ⟨g1, o1 + k * 3 + 2, none⟩ = some (.int .i64 z) ∧ wx.cell? ⟨g2, o2 + k * 3, none⟩ = some (.int .i64 x) ∧ wx.cell? ⟨g2, o2 + k * 3 + 1, none⟩ = some (.int .i64 y) ∧ wx.cell? ⟨g2, o2 + k * 3 + 2, none⟩ = some (.int .i64 z))
        (first | exact ⟨(b8.cell (p := ⟨g1, o1 + k * 3, none⟩) hg1).trans q0, (b8.cell (p := ⟨g1, o1 + k * 3 + 1, none⟩) hg1).trans q1, (b8.cell (p := ⟨g1, o1 + k * 3 + 2, none⟩) hg1).trans q2, (b8.cell (p := ⟨g2, o2 + k * 3, none⟩) hg2).trans p0, (b8.cell (p := ⟨g2, o2 + k * 3 + 1, none⟩) hg2).trans p1, (b8.cell (p := ⟨g2, o2 + k * 3 + 2, none⟩) hg2).trans p2⟩ | exact ⟨q0, q1, q2, p0, p1, p2⟩ | go_keep)
        (first | (go_at_call 71; refine (eqPlace_true _ _ _ _).mono ?_; rintro e w8 ⟨rfl, b8⟩))
      have HB8 := Lib.hid ((HB.out.drew).trans (b8.mono (by rw [World.size_drew]; exact HB.out.size)))
      clear b8 q0 q1 q2 p0 p1 p2
      go_wp2
      go_roundw
      case rel => exact ⟨k + 1, by omega, by go_num, HB8.out⟩
      case measure => simp [intOf]; omega
    · go_wp2
      go_ret
      exact ⟨rfl, hb⟩

set_option maxRecDepth 100000 in
theorem samePlaces_true (v1 v2 : Value) (ps : List Pl) (w : World) (h1 : RdP w v1 ps) (h2 : RdP w v2 ps) :
    Calls Try.prog 48 #[v1, v2] w fun e w' => e = .returned (.bool true) ∧ ∃ n, w' = w.drewN n := by
  obtain ⟨a1, c1, rfl, l1, m1, r1⟩ := h1
  obtain ⟨a2, c2, rfl, l2, m2, r2⟩ := h2
  go_enter Try.func48, Try.ntmps48
  go_wp2
  go_loopw [5] (fun i wr => ∃ k : Nat, k ≤ ps.length ∧ i = .int .i64 k ∧ ∃ n, wr = w.drewN n) (fun i _ => ps.length - (intOf i).toNat)
  case atStart => exact ⟨0, Nat.zero_le _, rfl, 0, rfl⟩
  case round =>
    obtain ⟨k, hk, rfl, n, rfl⟩ := hrel
    by_cases hlt : k < ps.length
    · obtain ⟨g1, o1, x, y, z, rfl, hg1, ⟨q0, q1, q2⟩, Z1⟩ := rdP_at r1 k hlt
      obtain ⟨g2, o2, x', y', z', rfl, hg2, ⟨p0, p1, p2⟩, Z2⟩ := rdP_at r2 k hlt
      have e9 := Z1.out.trans Z2.out.symm
      injection e9 with e9 e10
      injection e10 with e10 e11
      subst e9 e10 e11
      clear r1 r2 Z1 Z2
      go_wp2
      go_quiet (fail)
      go_wp2
      go_roundw
      case rel => exact ⟨k + 1, by omega, by go_num, _, rfl⟩
      case measure => simp [intOf]; omega
    · go_wp2
      go_ret
      exact ⟨rfl, n, rfl⟩

/-- The places with the numbers k, k + 1, .. in them. -/
def upPl (k : Int) : List Pl → List Pl
  | [] => []
  | _ :: l => (k, k + 1, k + 2) :: upPl (k + 3) l
theorem length_upPl (k : Int) : ∀ ps : List Pl, (upPl k ps).length = ps.length
  | [] => rfl
  | p :: l => by simp only [upPl, List.length_cons]; rw [length_upPl]
theorem upPl_append (k : Int) : ∀ a b : List Pl, upPl k (a ++ b) = upPl k a ++ upPl (k + 3 * a.length) b
  | [], b => by simp [upPl]
  | p :: l, b => by
    simp only [List.cons_append, upPl]
    rw [upPl_append (k + 3) l b, List.length_cons]
    congr 3
    omega
theorem takeP_snoc (ps : List Pl) (k : Nat) (h : k < ps.length) : ps.take (k + 1) = ps.take k ++ [ps.getD k (0, 0, 0)] := by
  rw [List.take_add_one, List.getElem?_eq_getElem h]; simp [List.getD, List.getElem?_eq_getElem h]
theorem getD_upPl (ps : List Pl) (k0 : Int) (k : Nat) (h : k < ps.length) : (upPl k0 ps).getD k (0, 0, 0) = (k0 + 3 * (k : Int), k0 + 3 * (k : Int) + 1, k0 + 3 * (k : Int) + 2) := by
  have e : upPl k0 ps = upPl k0 (ps.take k) ++ upPl (k0 + 3 * (ps.take k).length) (ps.drop k) := by rw [← upPl_append, List.take_append_drop]
  have hl : (upPl k0 (ps.take k)).length = k := by rw [length_upPl, List.length_take]; omega
  have hl2 : (ps.take k).length = k := by rw [List.length_take]; omega
  rw [e, hl2]
  simp only [List.getD]
  rw [List.getElem?_append_right (by omega), hl, Nat.sub_self, List.drop_eq_getElem_cons h]
  simp [upPl]
theorem cells_upd (ps : List Pl) (k0 : Int) (k : Nat) (h : k < ps.length) :
    (((cellsP (upPl k0 (ps.take k) ++ ps.drop k)).set (k * 3) (.int .i64 (k0 + 3 * (k : Int)))).set (k * 3 + 1) (.int .i64 (k0 + 3 * (k : Int) + 1))).set (k * 3 + 2) (.int .i64 (k0 + 3 * (k : Int) + 2)) = cellsP (upPl k0 (ps.take (k + 1)) ++ ps.drop (k + 1)) := by
  have hl : (cellsP (upPl k0 (ps.take k))).length = k * 3 := by rw [length_cellsP, length_upPl, List.length_take]; omega
  have hl2 : (ps.take k).length = k := by rw [List.length_take]; omega
  rw [takeP_snoc ps k h, upPl_append, hl2, List.drop_eq_getElem_cons h]
  simp only [cellsP_append, upPl, cellsP, List.append_assoc, List.nil_append, List.cons_append]
  rw [List.set_append_right _ _ (by omega), hl, Nat.sub_self, List.set_cons_zero, List.set_append_right _ _ (by omega), hl, show k * 3 + 1 - k * 3 = 1 from by omega, List.set_cons_succ, List.set_cons_zero,
    List.set_append_right _ _ (by omega), hl, show k * 3 + 2 - k * 3 = 2 from by omega, List.set_cons_succ, List.set_cons_succ, List.set_cons_zero]

set_option maxRecDepth 100000 in
theorem markPlaceS_any (lo hi : Nat) (v : Value) (ps : List Pl) (k0 : Int) (w : World) (h : OwnP w lo hi v ps) (h0 : 0 ≤ k0) (hb : k0 + 3 * ps.length ≤ 4611686018427387904) :
    Calls Try.prog 32 #[v, .int .i64 k0] w fun e w' => e = .returned (.int .i64 (k0 + 3 * ps.length)) ∧ OwnP w' lo hi v (upPl k0 ps) ∧ Turned lo hi w w' ∧ w'.heap.size = w.heap.size := by
  have hO := h
  obtain ⟨⟨hl, h⟩, hi'⟩ := h
  rcases h with ⟨rfl, hz⟩ | ⟨g, cap, cur, rfl, hg, hh', hn, hm, hsz, ht⟩
  · have hz' := List.length_eq_zero_iff.1 hz
    subst hz'
    go_enter Try.func32, Try.ntmps32
    go_wp2
    refine wp_loop_rounds 1 ?_
    rw [rounds_succ]
    go_wp2
    go_ret
    exact ⟨by simp, hO, turned_refl _ _ _, rfl⟩
  · have hown := hO.1
    have hgh : g < hi := hi' g rfl
    clear hh' ht hsz hl hO
    unfold maxLen at hm
    go_enter Try.func32, Try.ntmps32
    go_wp2
    go_loopw [1, 5] (fun q i wr => ∃ k : Nat, k ≤ ps.length ∧ i = .int .i64 k ∧ q = .int .i64 (k0 + 3 * (k : Int)) ∧ wr.ownsRow lo 26 3 (.slice (some ⟨g, 0, none⟩) ps.length cap) ps.length (cellsP (upPl k0 (ps.take k) ++ ps.drop k)) ∧ w.grownBy wr (some g) ∧ wr.heap.size = w.heap.size)
      (fun _ i _ => ps.length - (intOf i).toNat)
    case atStart => exact ⟨0, Nat.zero_le _, rfl, by simp, by simpa [upPl] using hown, World.grownBy.refl w _, rfl⟩
    case round =>
      obtain ⟨k, hk, rfl, rfl, hr, hgr, hs⟩ := hrel
      by_cases hlt : k < ps.length
      · have hll : (cellsP (upPl k0 (ps.take k) ++ ps.drop k)).length = ps.length * 3 := by rw [length_cellsP, List.length_append, length_upPl, List.length_take, List.length_drop]; omega
        have hst := cells_upd ps k0 k hlt
        rw [show k0 + 3 * (k : Int) + 2 = k0 + 3 * (k : Int) + 1 + 1 from by omega] at hst
        generalize hcc : cellsP (upPl k0 (ps.take k) ++ ps.drop k) = cs at hr hll hst
        have hfr := fun i => hr.frozenAt i
        have f0 := hfr (k * 3)
        have f1 := hfr (k * 3 + 1)
        have f2 := hfr (k * 3 + 2)
        have hat : ∀ i, i < ps.length * 3 → ∃ u, wr.cell? ⟨g, i, none⟩ = some u := fun i hi => by
          have := hr.cellAt i (by omega)
          rw [List.getElem?_eq_getElem (by omega)] at this
          exact ⟨_, this⟩
        obtain ⟨u0, c0⟩ := hat (k * 3) (by omega)
        obtain ⟨u1, c1⟩ := hat (k * 3 + 1) (by omega)
        obtain ⟨u2, c2⟩ := hat (k * 3 + 2) (by omega)
        have s1 := hr.stored (k * 3) (.int .i64 (k0 + 3 * (k : Int)))
        have s2 := s1.1.stored (k * 3 + 1) (.int .i64 (k0 + 3 * (k : Int) + 1))
        have s3 := s2.1.stored (k * 3 + 2) (.int .i64 (k0 + 3 * (k : Int) + 1 + 1))
        rw [hst] at s3
        have HST := Lib.hid s3.1
        have HGR := Lib.hid (((hgr.trans s1.2).trans s2.2).trans s3.2)
        have HS := Lib.hid hs
        clear hst hs s1 s2 s3 hfr hat hcc hll hgr hr hown
        go_wp2
        go_roundw
        case rel => exact ⟨k + 1, by omega, by go_num, by go_num, HST.out, HGR.out, by simp; exact HS.out⟩
        case measure => simp [intOf]; omega
      · have hk' : k = ps.length := by omega
        subst hk'
        rw [List.take_length, List.drop_length, List.append_nil] at hr
        go_wp2
        go_ret
        refine ⟨rfl, ⟨by rw [length_upPl]; exact hr, ?_⟩, ⟨hgr.os, hgr.tape, hgr.output, hgr.size, fun j hj hne => hgr.block j hj (fun e => by injection e with e; have := (hr.lt g rfl).1; omega)⟩, hs⟩
        intro j hj
        have : g = j := by injection hj
        omega

set_option maxRecDepth 100000 in
theorem heldPlaceS_up (v : Value) (ps : List Pl) (k0 : Int) (w : World) (h : RdP w v (upPl k0 ps)) (h0 : 0 ≤ k0) (hb : k0 + 3 * ps.length ≤ 4611686018427387904) :
    Calls Try.prog 33 #[v, .int .i64 k0] w fun e w' => e = .returned (.int .i64 (k0 + 3 * ps.length)) ∧ w' = w := by
  obtain ⟨a1, c1, rfl, l1, m1, r1⟩ := h
  have hlu := length_upPl k0 ps
  rw [hlu] at l1 ⊢
  go_enter Try.func33, Try.ntmps33
  go_wp2
  go_loop [1, 5] (fun q i => ∃ k : Nat, k ≤ ps.length ∧ i = .int .i64 k ∧ q = .int .i64 (k0 + 3 * (k : Int))) (fun _ i => ps.length - (intOf i).toNat)
  case atStart => exact ⟨0, Nat.zero_le _, rfl, by simp⟩
  case round =>
    obtain ⟨k, hk, rfl, rfl⟩ := hrel
    by_cases hlt : k < ps.length
    · obtain ⟨g1, o1, x, y, z, rfl, hg1, ⟨q0, q1, q2⟩, Z1⟩ := rdP_at r1 k (by rw [hlu]; exact hlt)
      have hz := Z1.out
      rw [getD_upPl ps k0 k hlt] at hz
      injection hz with e1 e2
      injection e2 with e2 e3
      subst e1 e2 e3
      clear r1 Z1 hlu
      go_wp2
      go_round
      case rel => exact ⟨k + 1, by omega, by go_num, by go_num⟩
      case measure => simp [intOf]; omega
    · have hk' : k = ps.length := by omega
      subst hk'
      go_wp2
      go_ret
      exact ⟨rfl, rfl⟩
end Go.Proofs.Ytahamfgkcnepgaa

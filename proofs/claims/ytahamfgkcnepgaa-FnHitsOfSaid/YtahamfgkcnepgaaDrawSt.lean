/- Drawn shots. -/
import Derived.Test.YtahamfgkcnepgaaDrawSh
namespace Go.Proofs.Ytahamfgkcnepgaa
open Go.RowKit

theorem OwnR.row {w : World} {lo hi k j : Nat} {v : Value} {us : List Value} {zss : List (List Int)} (h : OwnR w lo hi v us zss) (hk : k < zss.length) (hj : j < (zss.getD k []).length) (hh : hi ≤ w.heap.size) :
    ∃ g cn b cb z, v = .slice (some ⟨g, 0, none⟩) zss.length cn ∧ w.cell? ⟨g, k, none⟩ = some (.slice (some ⟨b, 0, none⟩) (zss.getD k []).length cb) ∧ (zss.getD k []).length ≤ cb ∧ w.cell? ⟨b, j, none⟩ = some (.int .i64 z) ∧ Hid (z = (zss.getD k []).getD j 0) ∧ w.frozen? ⟨b, j, none⟩ = false ∧
      ∀ x, OwnR (w.setCell ⟨b, j, none⟩ (.int .i64 x)) lo hi v us (zss.set k ((zss.getD k []).set j x)) ∧ Turned lo hi w (w.setCell ⟨b, j, none⟩ (.int .i64 x)) := by
  have hul := h.len
  obtain ⟨hin, hinb⟩ := h.inner k hk
  have hout := h.outer
  have hout2 := hout
  obtain ⟨_, hv⟩ := hout2
  rcases hv with ⟨_, h0⟩ | ⟨g, cn, cur, rfl, _, _, hn, hm, _, _⟩
  · omega
  have hc := hout.cellAt k (by omega)
  rw [List.getElem?_eq_getElem (by omega)] at hc
  have hu : us.getD k nilV = us[k]'(by omega) := by simp [List.getD, List.getElem?_eq_getElem (show k < us.length by omega)]
  rw [← hu] at hc
  have hrt := fun (w' : World) (zs' : List Int) ho ht => h.rowTurned (w' := w') (zs := zs') hh hk ho ht
  generalize us.getD k nilV = u at *
  generalize zss.getD k [] = zs at *
  have hin2 := hin.1
  obtain ⟨_, hr⟩ := hin2
  rcases hr with ⟨_, h0⟩ | ⟨b, cb, cur2, e, _, _, hn2, hm2, _, _⟩
  · omega
  have hin1 := hin.1
  subst e
  have hcj := hin1.cellAt j (by omega)
  rw [List.getElem?_map, List.getElem?_eq_getElem hj] at hcj
  have hst := fun x => hin1.stored j (.int .i64 x)
  refine ⟨g, cn, b, cb, zs[j], rfl, hc, hn2, hcj, by unfold Hid; simp [List.getD, List.getElem?_eq_getElem hj], hin1.frozenAt j, fun x => ?_⟩
  have hrw : rowLo (.slice (some ⟨b, 0, none⟩) zs.length cb) = b ∧ rowHi (.slice (some ⟨b, 0, none⟩) zs.length cb) = b + 1 := row_blk rfl
  have hto : Own (w.setCell ⟨b, j, none⟩ (.int .i64 x)) (rowLo (.slice (some ⟨b, 0, none⟩) zs.length cb)) (rowHi (.slice (some ⟨b, 0, none⟩) zs.length cb)) (.slice (some ⟨b, 0, none⟩) zs.length cb) (zs.set j x) := by
    refine ⟨?_, hin.2⟩
    rw [List.length_set, List.map_set]; exact (hst x).1
  have htt : Turned (rowLo (.slice (some ⟨b, 0, none⟩) zs.length cb)) (rowHi (.slice (some ⟨b, 0, none⟩) zs.length cb)) w (w.setCell ⟨b, j, none⟩ (.int .i64 x)) := by
    rw [hrw.1, hrw.2]
    exact ⟨rfl, rfl, rfl, by simp, fun q hq hne => heap_setCell_other w ⟨b, j, none⟩ q _ (by show q ≠ b; omega)⟩
  exact hrt _ _ hto htt

/-- Rows of 0 and 1. -/
def Bits (n C : Nat) (zss : List (List Int)) : Prop := zss.length = n ∧ ∀ zs ∈ zss, zs.length = C ∧ ∀ z ∈ zs, 0 ≤ z ∧ z ≤ 1

theorem bits_diag (r c l m : Int) : ∃ n C : Nat, n ≤ 6 ∧ C ≤ 6 ∧ Bits n C (diagI r c l m) := by
  unfold diagI
  split
  · rename_i h
    obtain ⟨h1, h2, -, -⟩ := diagB_yes h
    refine ⟨r.toNat, c.toNat, by omega, by omega, length_diagL _ _ _ _, fun zs hz => ?_⟩
    obtain ⟨i, _, rfl⟩ := List.mem_map.1 hz
    refine ⟨length_diagRow _ _ _ _, fun z hz => ?_⟩
    obtain ⟨j, _, rfl⟩ := List.mem_map.1 hz
    unfold diagX; split <;> omega
  · exact ⟨0, 0, by omega, by omega, rfl, by simp⟩

theorem Bits.flip {n C k j : Nat} {zss : List (List Int)} {z : Int} (h : Bits n C zss) (hk : k < n) (hz : z = (zss.getD k []).getD j 0) (hj : j < C) : Bits n C (zss.set k ((zss.getD k []).set j (1 - z))) := by
  obtain ⟨h1, h2⟩ := h
  have hm : zss.getD k [] ∈ zss := by simp [List.getD, List.getElem?_eq_getElem (show k < zss.length by omega)]
  obtain ⟨h3, h4⟩ := h2 _ hm
  refine ⟨by simpa using h1, fun zs hzs => ?_⟩
  rcases List.mem_or_eq_of_mem_set hzs with h | rfl
  · exact h2 zs h
  · refine ⟨by simpa using h3, fun x hx => ?_⟩
    rcases List.mem_or_eq_of_mem_set hx with h | rfl
    · exact h4 x h
    · generalize zss.getD k [] = zs at *
      have := h4 z (by rw [hz]; simp [List.getD, List.getElem?_eq_getElem (show j < zs.length by omega)])
      omega

/-- What is known of shots while they are drawn. -/
structure DrS (w : World) (g lo hi B n C : Nat) (v : Value) (us : List Value) (wr : World) : Prop where
  ex : ∃ zss, OwnR wr lo hi v us zss ∧ Bits n C zss
  rdr : Rdr wr g B
  turned : Turned g (g + 1) w wr
  a0 : g < lo
  a1 : hi ≤ wr.heap.size
  a2 : w.heap.size ≤ lo

theorem DrS.pick {w wr w' : World} {g lo hi B n C : Nat} {v : Value} {us : List Value} (h : DrS w g lo hi B n C v us wr) (hr : Rdr w' g (B + 1)) (ht : Turned g (g + 1) wr w') : DrS w g lo hi (B + 1) n C v us w' := by
  obtain ⟨⟨zss, ho, hb⟩, r, t, a0, a1, a2⟩ := h
  exact ⟨⟨zss, ho.turned ht a1 (.inr (by omega)), hb⟩, hr, turned_trans t ht, a0, Nat.le_trans a1 ht.size, a2⟩

theorem rd_len {w : World} {a : Option Addr} {n c : Nat} {zs : List Int} (h : Rd w (.slice a n c) zs) : n = zs.length := by
  obtain ⟨a', c', e, -⟩ := h
  injection e with _ e2
theorem rdR_len {w : World} {a : Option Addr} {n c : Nat} {zss : List (List Int)} (h : RdR w (.slice a n c) zss) : n = zss.length := by
  obtain ⟨a', c', e, -⟩ := h
  injection e with _ e2

theorem DrS.drew {w wr : World} {g lo hi B n C : Nat} {v : Value} {us : List Value} (h : DrS w g lo hi B n C v us wr) (m : Nat) : DrS w g lo hi B n C v us (wr.drewN m) := by
  obtain ⟨⟨zss, ho, hb⟩, r, t, a0, a1, a2⟩ := h
  exact ⟨⟨zss, ho.drewN m, hb⟩, r, ⟨t.os, t.tape, t.output, t.size, t.block⟩, a0, a1, a2⟩
theorem DrS.drew1 {w wr : World} {g lo hi B n C : Nat} {v : Value} {us : List Value} (h : DrS w g lo hi B n C v us wr) : DrS w g lo hi B n C v us wr.drew := by
  obtain ⟨⟨zss, ho, hb⟩, r, t, a0, a1, a2⟩ := h
  exact ⟨⟨zss, ho.keep fun _ _ _ => rfl, hb⟩, r, turned_drew t, a0, a1, a2⟩
theorem DrS.set {w wr w' : World} {g lo hi B n C : Nat} {v : Value} {us : List Value} {zss : List (List Int)} (h : DrS w g lo hi B n C v us wr) (ho : OwnR w' lo hi v us zss) (hb : Bits n C zss) (ht : Turned lo hi wr w') : DrS w g lo hi B n C v us w' := by
  obtain ⟨_, r, t, a0, a1, a2⟩ := h
  exact ⟨⟨zss, ho, hb⟩, rdr_keep r (fun k hk => ht.block k (by have := rdr_lt r; omega) (.inl (by omega))), ⟨ht.os.trans t.os, ht.tape.trans t.tape, ht.output.trans t.output, Nat.le_trans t.size ht.size, fun k hk hne => (ht.block k (by have := t.size; omega) (.inl (by omega))).trans (t.block k hk hne)⟩, a0, Nat.le_trans a1 ht.size, a2⟩

theorem bits_row {n C k : Nat} {zss : List (List Int)} (h : Bits n C zss) (hk : k < n) : (zss.getD k []).length = C ∧ ∀ z ∈ zss.getD k [], 0 ≤ z ∧ z ≤ 1 :=
  h.2 _ (by simp [List.getD, List.getElem?_eq_getElem (show k < zss.length by have := h.1; omega)])

/-- The row's own cell. -/
theorem DrS.rowc {w wr : World} {g lo hi B n C k : Nat} {A : Option Addr} {cn : Nat} {us : List Value} (h : DrS w g lo hi B n C (.slice A n cn) us wr) (hk : k < n) :
    ∃ g0 A0 c0, A = some ⟨g0, 0, none⟩ ∧ wr.cell? ⟨g0, k, none⟩ = some (.slice A0 C c0) ∧ n ≤ cn ∧ cn ≤ 9223372036854775807 := by
  obtain ⟨⟨zss, ho, hb⟩, -, -, -, -, -⟩ := h
  have hn := hb.1
  have hl := (bits_row hb hk).1
  have hout := ho.outer
  obtain ⟨_, hv⟩ := hout
  rcases hv with ⟨_, h0⟩ | ⟨g0, cn', cur, e, _, _, hn1, hm1, _, _⟩
  · omega
  injection e with e1 e2 e3
  subst e1 e3
  obtain ⟨a, cp, e4, l1, m1, r1⟩ := ho.rd
  injection e4 with e5 e6 e7
  subst e5 e7
  obtain ⟨g1, o1, A1, d1, zs, e8, hg1, x1, y1, Z1⟩ := rdR_at r1 k (by omega)
  injection e8 with e8
  injection e8 with e9 e10
  subst e9 e10
  rw [Nat.zero_add] at x1
  have : zs.length = C := by rw [Z1.out]; exact hl
  rw [this] at x1
  exact ⟨g0, A1, d1, rfl, x1, by omega, m1⟩

/-- A number's own cells, and what a store there leaves. -/
theorem DrS.cell {w wr : World} {g lo hi B n C k j : Nat} {A : Option Addr} {cn : Nat} {us : List Value} (h : DrS w g lo hi B n C (.slice A n cn) us wr) (hk : k < n) (hj : j < C) :
    ∃ g0 b cb z, A = some ⟨g0, 0, none⟩ ∧ wr.cell? ⟨g0, k, none⟩ = some (.slice (some ⟨b, 0, none⟩) C cb) ∧ C ≤ cb ∧ wr.cell? ⟨b, j, none⟩ = some (.int .i64 z) ∧ (0 ≤ z ∧ z ≤ 1) ∧ wr.frozen? ⟨b, j, none⟩ = false ∧ DrS w g lo hi B n C (.slice A n cn) us (wr.setCell ⟨b, j, none⟩ (.int .i64 (1 - z))) := by
  have h' := h
  obtain ⟨⟨zss, ho, hb⟩, -, -, -, ha1, -⟩ := h'
  have hn := hb.1
  have hl := bits_row hb hk
  obtain ⟨g0, cn', b, cb, z, e, c1, c2, c3, HZ, c4, c5⟩ := ho.row (k := k) (j := j) (by omega) (by omega) ha1
  injection e with e1 e2 e3
  subst e1 e3
  have hz := hl.2 z (by rw [HZ.out]; generalize zss.getD k [] = zs at *; simp [List.getD, List.getElem?_eq_getElem (show j < zs.length by omega)])
  rw [hl.1] at c1 c2
  exact ⟨g0, b, cb, z, rfl, c1, c2, c3, hz, c4, h.set (c5 (1 - z)).1 (hb.flip hk HZ.out hj) (c5 (1 - z)).2⟩

/-- Rows that are read, and are read still when the reader has gone on. -/
def KeepR (g : Nat) (w : World) (v : Value) (zss : List (List Int)) : Prop := RdR w v zss ∧ ∀ w', Turned 0 (g + 1) w w' → RdR w' v zss

theorem DrS.fin {w wr : World} {g lo hi B n C : Nat} {v : Value} {us : List Value} (h : DrS w g lo hi B n C v us wr) (hn : n ≤ 6) (hC : C ≤ 6) : ∃ zss, KeepR g wr v zss ∧ zss.length ≤ 6 ∧ ∀ zs ∈ zss, zs.length ≤ 6 ∧ ∀ z ∈ zs, 0 ≤ z ∧ z ≤ 1 := by
  obtain ⟨⟨zss, ho, hb⟩, -, -, a0, a1, -⟩ := h
  exact ⟨zss, ⟨ho.rd, fun w' ht => (ho.turned ht a1 (.inr (by omega))).rd⟩, by rw [hb.1]; exact hn, fun zs hz => ⟨by rw [(hb.2 zs hz).1]; exact hC, (hb.2 zs hz).2⟩⟩

theorem rdR_tail {w : World} {g off n c : Nat} {zs : List Int} {zss : List (List Int)} (h : RdR w (.slice (some ⟨g, off, none⟩) n c) (zs :: zss)) : RdR w (.slice (some ⟨g, off + 1, none⟩) zss.length (c - 1)) zss := by
  obtain ⟨a, c', e, h1, h2, h3⟩ := h
  injection e with e1 e2 e3
  subst e1 e3
  rw [List.length_cons] at h1
  refine ⟨_, _, rfl, by omega, by omega, fun h0 => ?_⟩
  obtain ⟨g', off', e4, hg, hc⟩ := h3 (by simp)
  injection e4 with e4
  injection e4 with e5 e6
  subst e5 e6
  refine ⟨g, off + 1, rfl, hg, fun j hj => ?_⟩
  obtain ⟨u, hu, hr⟩ := hc (j + 1) (by simp; omega)
  rw [show off + (j + 1) = off + 1 + j from by omega] at hu
  exact ⟨u, hu, by simpa using hr⟩

/-- The shots without the first row. -/
theorem DrS.tail {w wr : World} {g lo hi B n C : Nat} {g0 cn : Nat} {us : List Value} (h : DrS w g lo hi B n C (.slice (some ⟨g0, 0, none⟩) n cn) us wr) (hn : n ≤ 6) (hC : C ≤ 6) (h0 : 0 < n) : ∃ zss, KeepR g wr (.slice (some ⟨g0, 1, none⟩) (n - 1) (cn - 1)) zss ∧ zss.length ≤ 6 ∧ ∀ zs ∈ zss, zs.length ≤ 6 ∧ ∀ z ∈ zs, 0 ≤ z ∧ z ≤ 1 := by
  obtain ⟨⟨zss, ho, hb⟩, -, -, a0, a1, -⟩ := h
  have hl := hb.1
  cases zss with
  | nil => simp at hl; omega
  | cons zs r =>
    have this := rdR_tail ho.rd
    have that := fun w' (ht : Turned 0 (g + 1) wr w') => rdR_tail (ho.turned ht a1 (.inr (by omega))).rd
    simp only [List.length_cons] at hl
    rw [Nat.zero_add, show r.length = n - 1 from by omega] at this
    simp only [Nat.zero_add, show r.length = n - 1 from by omega] at that
    exact ⟨r, ⟨this, that⟩, by omega, fun z hz => ⟨by rw [(hb.2 z (by simp [hz])).1]; exact hC, (hb.2 z (by simp [hz])).2⟩⟩

/-- The shots with an empty first row. -/
theorem DrS.empty0 {w wr : World} {g lo hi B n C : Nat} {g0 cn : Nat} {us : List Value} (h : DrS w g lo hi B n C (.slice (some ⟨g0, 0, none⟩) n cn) us wr) (hn : n ≤ 6) (hC : C ≤ 6) (h0 : 0 < n) :
    (∃ zss, KeepR g ((wr.alloc (.cells #[] 3)).setCell ⟨g0, 0, none⟩ (.slice (some ⟨wr.heap.size, 0, none⟩) 0 0)) (.slice (some ⟨g0, 0, none⟩) n cn) zss ∧ zss.length ≤ 6 ∧ ∀ zs ∈ zss, zs.length ≤ 6 ∧ ∀ z ∈ zs, 0 ≤ z ∧ z ≤ 1) ∧
    Rdr ((wr.alloc (.cells #[] 3)).setCell ⟨g0, 0, none⟩ (.slice (some ⟨wr.heap.size, 0, none⟩) 0 0)) g B ∧ Turned g (g + 1) w ((wr.alloc (.cells #[] 3)).setCell ⟨g0, 0, none⟩ (.slice (some ⟨wr.heap.size, 0, none⟩) 0 0)) ∧ (∃ u, wr.cell? ⟨g0, 0, none⟩ = some u) ∧ wr.frozen? ⟨g0, 0, none⟩ = false ∧ g0 < wr.heap.size := by
  obtain ⟨⟨zss, ho, hb⟩, r, t, a0, a1, a2⟩ := h
  have hl := hb.1
  have hb0 : Below wr.heap.size wr (wr.alloc (.cells #[] 3)) := (Below.refl _ _).alloc (Nat.le_refl _) _
  have hu : Own (wr.alloc (.cells #[] 3)) wr.heap.size (wr.heap.size + 1) (.slice (some ⟨wr.heap.size, 0, none⟩) 0 0) [] := Own.new (World.ownsRow_lit wr #[] 0 (Nat.le_refl _) (by simp) (by simp)) (by simp)
  obtain ⟨ot, otb⟩ := own_tight hu
  have ho' : OwnR wr lo wr.heap.size (.slice (some ⟨g0, 0, none⟩) zss.length cn) us zss := by rw [hl]; exact ho.wide (Nat.le_refl _) a1
  have hp := ho'.put (j := 0) (Nat.le_refl _) hb0 ot (fun k hk => by have := otb k hk; simp only [World.size_alloc]; omega) (by omega) rfl
  have hout := ho'.outer
  have hgl := hout.lt g0 rfl
  have ht := hp.2
  have hk := fun w' (hw : Turned 0 (g + 1) _ w') => (hp.1.turned hw (by simp) (.inr (by omega))).rd
  rw [hl] at hk
  refine ⟨⟨_, ⟨by have := hp.1.rd; rw [hl] at this; exact this, hk⟩, by simp; omega, fun zs hz => ?_⟩, rdr_keep r (fun k hk => ht.block k (by have := rdr_lt r; omega) (.inl (by omega))), ⟨ht.os.trans t.os, ht.tape.trans t.tape, ht.output.trans t.output, Nat.le_trans t.size ht.size, fun k hk hne => (ht.block k (by have := t.size; omega) (.inl (by omega))).trans (t.block k hk hne)⟩, own_cell hout 0 (by omega), hout.frozenAt 0, hgl.2⟩
  rcases List.mem_or_eq_of_mem_set hz with h | rfl
  · exact ⟨by rw [(hb.2 zs h).1]; exact hC, (hb.2 zs h).2⟩
  · simp

theorem DrS.empty {w wr : World} {g lo hi B n C : Nat} {g0 cn : Nat} {us : List Value} (h : DrS w g lo hi B n C (.slice (some ⟨g0, 0, none⟩) n cn) us wr) (hn : n ≤ 6) (hC : C ≤ 6) (h0 : 0 < n) :
    (∃ zss, KeepR g ((wr.setCell ⟨g0, 0, none⟩ (.slice (some ⟨wr.heap.size, 0, none⟩) 0 0)).alloc (.cells #[] 3)) (.slice (some ⟨g0, 0, none⟩) n cn) zss ∧ zss.length ≤ 6 ∧ ∀ zs ∈ zss, zs.length ≤ 6 ∧ ∀ z ∈ zs, 0 ≤ z ∧ z ≤ 1) ∧
    Rdr ((wr.setCell ⟨g0, 0, none⟩ (.slice (some ⟨wr.heap.size, 0, none⟩) 0 0)).alloc (.cells #[] 3)) g B ∧ Turned g (g + 1) w ((wr.setCell ⟨g0, 0, none⟩ (.slice (some ⟨wr.heap.size, 0, none⟩) 0 0)).alloc (.cells #[] 3)) ∧ (∃ u, wr.cell? ⟨g0, 0, none⟩ = some u) ∧ wr.frozen? ⟨g0, 0, none⟩ = false ∧ g0 < wr.heap.size := by
  have key := h.empty0 hn hC h0
  rw [World.setCell_alloc_past _ _ _ _ key.2.2.2.2.2] at key
  exact key

set_option maxHeartbeats 6400000 in
set_option maxRecDepth 100000 in
theorem shots_any (g B : Nat) (n : Int) (w : World) (h : Rdr w g B) (hB : B ≤ 100000) :
    Calls Try.prog 81 #[.pointer (some ⟨g, 0, none⟩), .int .i64 n] w fun e w' => (∃ r c l v zss, e = .returned (.tuple #[.int .i64 r, .int .i64 c, v, .int .i64 l]) ∧ (0 ≤ r ∧ r ≤ 7) ∧ (0 ≤ c ∧ c ≤ 6) ∧ (0 ≤ l ∧ l ≤ 7) ∧ KeepR g w' v zss ∧ zss.length ≤ 6 ∧ ∀ zs ∈ zss, zs.length ≤ 6 ∧ ∀ z ∈ zs, 0 ≤ z ∧ z ≤ 1) ∧ Rdr w' g (B + 100) ∧ Turned g (g + 1) w w' := by
  have hg := rdr_lt h
  go_enter Try.func81, Try.ntmps81
  go_wp2_with fail
  refine (board_any g B n w h (by omega)).mono ?_
  rintro e w1 ⟨⟨r, c, l, rfl, hr, hc, hl⟩, r1, t1⟩
  have hl3 : l = 0 ∨ (1 ≤ l ∧ l ≤ 6) ∨ l = 7 := by omega
  rcases hl3 with rfl | hl3 | rfl
  · go_wp2_with fail
    refine (pick_any g (B + 4) _ _ r1 (by omega)).mono ?_
    rintro e w2 ⟨x, rfl, -, r2, t2, -⟩
    have t12 := turned_trans t1 t2
    clear r1 t1 t2
    go_wp2_with fail
    refine (specDiagonalShots_any r c _ x _).mono ?_
    rintro e w3 ⟨v, us, rfl, o3, b3⟩
    obtain ⟨nn, C, hn6, hC6, hbits⟩ := bits_diag r c 1 x
    have hg2 := rdr_lt r2
    obtain ⟨A, cn, e9, -⟩ := o3.rd
    rw [hbits.1] at e9
    subst e9
    have hs2 : w.heap.size ≤ w2.heap.size := t12.size
    have st : DrS w g w2.heap.size w3.heap.size (B + 5) nn C (.slice A nn cn) us w3 := ⟨⟨_, o3, hbits⟩, rdr_keep r2 (fun k hk => b3.block k (by omega)), turned_below t12 (b3.mono hs2), hg2, Nat.le_refl _, hs2⟩
    have ST := Lib.hid st
    have hrd := st.rdr
    clear st o3 b3 r2 t12 hbits
    go_wp2_with fail
    refine (pick_any g (B + 5) 2 _ hrd (by omega)).mono ?_
    rintro e w4 ⟨y, rfl, ⟨hy0, hy1, -⟩, r4, t4, -⟩
    have hy2 := hy1 (by omega)
    have st := ST.out.pick r4 t4
    clear ST hrd r4 t4 hy1
    by_cases hyz : y = 0
    · subst hyz
      have ST := Lib.hid st
      clear st
      go_wp2_with fail
      go_loopw [12] (fun i wr => ∃ k D : Nat, k ≤ nn ∧ i = .int .i64 k ∧ D ≤ B + 6 + 6 * k ∧ DrS w g w2.heap.size w3.heap.size D nn C (.slice A nn cn) us wr) (fun i _ => nn - (intOf i).toNat)
      case atStart => exact ⟨0, B + 5 + 1, Nat.zero_le _, rfl, by omega, ST.out⟩
      case round =>
        clear ST
        obtain ⟨k, D, hk, rfl, hD, st⟩ := hrel
        by_cases hlt : k < nn
        · have ST := Lib.hid st
          clear st
          go_wp2_with fail
          go_loopw [13] (fun i wr => ∃ j D : Nat, j ≤ C ∧ i = .int .i64 j ∧ D ≤ B + 6 + 6 * k + j ∧ DrS w g w2.heap.size w3.heap.size D nn C (.slice A nn cn) us wr) (fun i _ => C - (intOf i).toNat)
          case atStart => exact ⟨0, D, Nat.zero_le _, rfl, by omega, ST.out⟩
          case round =>
            clear ST
            obtain ⟨j, D, hj, rfl, hD2, st⟩ := hrel
            by_cases hjl : j < C
            · obtain ⟨g0, A0, c0, rfl, x0, hnc, hcm⟩ := st.rowc hlt
              have ST := Lib.hid st
              have hrd := st.rdr
              clear st
              go_wp2_with fail
              refine (pick_any g D 5 _ hrd (by omega)).mono ?_
              rintro e w5 ⟨q, rfl, ⟨hq0, hq1, -⟩, r5, t5, -⟩
              have hq2 := hq1 (by omega)
              have st := ST.out.pick r5 t5
              clear ST hrd r5 t5 hq1 x0
              by_cases hqz : q = 0
              · subst hqz
                obtain ⟨g1, b, cb, z, e9, c1, c2, c3, hz, c4, c5⟩ := st.cell hlt hjl
                injection e9 with e9
                injection e9 with e9 e10
                subst e9
                have C5 := Lib.hid c5
                clear st c5
                go_wp2_with fail
                go_region
                go_wp2
                go_roundw
                case rel => exact ⟨j + 1, D + 1, by omega, by go_num, by omega, C5.out.drew1⟩
                case measure => simp [intOf]; omega
              · have hqq : (q == 0) = false := by simpa using hqz
                have ST := Lib.hid st
                clear st
                go_wp2
                go_roundw
                case rel => exact ⟨j + 1, D + 1, by omega, by go_num, by omega, ST.out⟩
                case measure => simp [intOf]; omega
            · have hj' : j = C := by omega
              subst hj'
              obtain ⟨g0, A0, c0, rfl, x0, hnc, hcm⟩ := st.rowc hlt
              have ST := Lib.hid st
              clear st
              go_wp2
              go_roundw
              case rel => exact ⟨k + 1, D, by omega, by go_num, by omega, ST.out⟩
              case measure => simp [intOf]; omega
        · have hk' : k = nn := by omega
          subst hk'
          have ST := Lib.hid st
          clear st
          have hD9 : D ≤ B + 60 := by omega
          have hrd := ST.out.rdr
          go_wp2_with fail
          refine (odd_any g _ n _ hrd (by omega)).mono ?_
          rintro e w6 ⟨b, rfl, -, r6, t6, -⟩
          have st6 := ST.out.pick r6 t6
          clear ST hrd r6 t6
          rcases b with _ | _
          · have HE := Lib.hid (st6.fin hn6 hC6)
            have hrr := st6.rdr
            have htt := st6.turned
            clear st6
            go_wp2
            refine bodyPost_ret (v := .tuple #[.int .i64 r, .int .i64 c, .slice A k cn, .int .i64 0]) (by simp [results, Try.results81, go_sem]) rfl ?_
            obtain ⟨zss, q1, q2, q3⟩ := HE.out
            exact ⟨⟨_, _, _, _, zss, rfl, hr, hc, hl, q1, q2, q3⟩, rdr_more hrr (by omega), htt⟩
          · by_cases hn0 : k = 0
            · subst hn0
              have HE := Lib.hid (st6.fin hn6 hC6)
              have hrr := st6.rdr
              have htt := st6.turned
              clear st6
              go_wp2
              refine bodyPost_ret (v := .tuple #[.int .i64 r, .int .i64 c, .slice A 0 cn, .int .i64 0]) (by simp [results, Try.results81, go_sem]) rfl ?_
              obtain ⟨zss, q1, q2, q3⟩ := HE.out
              exact ⟨⟨_, _, _, _, zss, rfl, hr, hc, hl, q1, q2, q3⟩, rdr_more hrr (by omega), htt⟩
            · have hn0' : (0 : Int) < k := by omega
              have ST6 := Lib.hid st6
              have hrd6 := st6.rdr
              clear st6
              go_wp2_with fail
              refine (pick_any g _ 2 _ hrd6 (by omega)).mono ?_
              rintro e w7 ⟨q, rfl, ⟨hq0, hq1, -⟩, r7, t7, -⟩
              have hq2 := hq1 (by omega)
              have st7 := ST6.out.pick r7 t7
              clear ST6 hrd6 r7 t7 hq1
              obtain ⟨g0, A0, c0, rfl, x0, hnc, hcm⟩ := st7.rowc (k := 0) (by omega)
              by_cases hqz : q = 0
              · subst hqz
                obtain ⟨HE, hrr, htt, ⟨u, hu⟩, hfz, hgl⟩ := st7.empty hn6 hC6 (by omega)
                have HEE := Lib.hid HE; have HRR := Lib.hid hrr; have HTT := Lib.hid htt
                clear HE hrr htt st7
                go_wp2
                refine bodyPost_ret (v := .tuple #[.int .i64 r, .int .i64 c, .slice (some ⟨g0, 0, none⟩) k cn, .int .i64 0]) (by simp [results, Try.results81, go_sem]) rfl ?_
                obtain ⟨zss, q1, q2, q3⟩ := HEE.out
                exact ⟨⟨_, _, _, _, zss, rfl, hr, hc, hl, q1, q2, q3⟩, rdr_more HRR.out (by omega), HTT.out⟩
              · have hqq : (q == 0) = false := by simpa using hqz
                by_cases hcn : cn = 1
                · subst hcn
                  have hrr := st7.rdr
                  have htt := st7.turned
                  clear st7
                  go_wp2
                  refine bodyPost_ret (v := .tuple #[.int .i64 r, .int .i64 c, .slice (some ⟨g0, 0, none⟩) 0 0, .int .i64 0]) (by simp [results, Try.results81, go_sem]) rfl ?_
                  exact ⟨⟨_, _, _, _, [], rfl, hr, hc, hl, ⟨⟨_, _, rfl, by simp, by omega, fun h => absurd h (by simp)⟩, fun _ _ => ⟨_, _, rfl, by simp, by omega, fun h => absurd h (by simp)⟩⟩, by simp, by simp⟩, rdr_more hrr (by omega), htt⟩
                · have HE := Lib.hid (st7.tail hn6 hC6 (by omega))
                  have hrr := st7.rdr
                  have htt := st7.turned
                  clear st7
                  go_wp2
                  refine bodyPost_ret (v := .tuple #[.int .i64 r, .int .i64 c, .slice (some ⟨g0, 1, none⟩) (k - 1) (cn - 1), .int .i64 0]) (by simp [results, Try.results81, go_sem]) rfl ?_
                  obtain ⟨zss, q1, q2, q3⟩ := HE.out
                  exact ⟨⟨_, _, _, _, zss, rfl, hr, hc, hl, q1, q2, q3⟩, rdr_more hrr (by omega), htt⟩
    · have hyq : (y == 0) = false := by simpa using hyz
      have ST := Lib.hid st
      clear st
      have hrd := ST.out.rdr
      go_wp2_with fail
      refine (odd_any g _ n _ hrd (by omega)).mono ?_
      rintro e w6 ⟨b, rfl, -, r6, t6, -⟩
      have st6 := ST.out.pick r6 t6
      clear ST hrd r6 t6
      rcases b with _ | _
      · have HE := Lib.hid (st6.fin hn6 hC6)
        have hrr := st6.rdr
        have htt := st6.turned
        clear st6
        go_wp2
        refine bodyPost_ret (v := .tuple #[.int .i64 r, .int .i64 c, .slice A nn cn, .int .i64 0]) (by simp [results, Try.results81, go_sem]) rfl ?_
        obtain ⟨zss, q1, q2, q3⟩ := HE.out
        exact ⟨⟨_, _, _, _, zss, rfl, hr, hc, hl, q1, q2, q3⟩, rdr_more hrr (by omega), htt⟩
      · by_cases hn0 : nn = 0
        · subst hn0
          have HE := Lib.hid (st6.fin hn6 hC6)
          have hrr := st6.rdr
          have htt := st6.turned
          clear st6
          go_wp2
          refine bodyPost_ret (v := .tuple #[.int .i64 r, .int .i64 c, .slice A 0 cn, .int .i64 0]) (by simp [results, Try.results81, go_sem]) rfl ?_
          obtain ⟨zss, q1, q2, q3⟩ := HE.out
          exact ⟨⟨_, _, _, _, zss, rfl, hr, hc, hl, q1, q2, q3⟩, rdr_more hrr (by omega), htt⟩
        · have hn0' : (0 : Int) < nn := by omega
          have ST6 := Lib.hid st6
          have hrd6 := st6.rdr
          clear st6
          go_wp2_with fail
          refine (pick_any g _ 2 _ hrd6 (by omega)).mono ?_
          rintro e w7 ⟨q, rfl, ⟨hq0, hq1, -⟩, r7, t7, -⟩
          have hq2 := hq1 (by omega)
          have st7 := ST6.out.pick r7 t7
          clear ST6 hrd6 r7 t7 hq1
          obtain ⟨g0, A0, c0, rfl, x0, hnc, hcm⟩ := st7.rowc (k := 0) (by omega)
          by_cases hqz : q = 0
          · subst hqz
            obtain ⟨HE, hrr, htt, ⟨u, hu⟩, hfz, hgl⟩ := st7.empty hn6 hC6 (by omega)
            have HEE := Lib.hid HE; have HRR := Lib.hid hrr; have HTT := Lib.hid htt
            clear HE hrr htt st7
            go_wp2
            refine bodyPost_ret (v := .tuple #[.int .i64 r, .int .i64 c, .slice (some ⟨g0, 0, none⟩) nn cn, .int .i64 0]) (by simp [results, Try.results81, go_sem]) rfl ?_
            obtain ⟨zss, q1, q2, q3⟩ := HEE.out
            exact ⟨⟨_, _, _, _, zss, rfl, hr, hc, hl, q1, q2, q3⟩, rdr_more HRR.out (by omega), HTT.out⟩
          · have hqq : (q == 0) = false := by simpa using hqz
            by_cases hcn : cn = 1
            · subst hcn
              have hrr := st7.rdr
              have htt := st7.turned
              clear st7
              go_wp2
              refine bodyPost_ret (v := .tuple #[.int .i64 r, .int .i64 c, .slice (some ⟨g0, 0, none⟩) 0 0, .int .i64 0]) (by simp [results, Try.results81, go_sem]) rfl ?_
              exact ⟨⟨_, _, _, _, [], rfl, hr, hc, hl, ⟨⟨_, _, rfl, by simp, by omega, fun h => absurd h (by simp)⟩, fun _ _ => ⟨_, _, rfl, by simp, by omega, fun h => absurd h (by simp)⟩⟩, by simp, by simp⟩, rdr_more hrr (by omega), htt⟩
            · have HE := Lib.hid (st7.tail hn6 hC6 (by omega))
              have hrr := st7.rdr
              have htt := st7.turned
              clear st7
              go_wp2
              refine bodyPost_ret (v := .tuple #[.int .i64 r, .int .i64 c, .slice (some ⟨g0, 1, none⟩) (nn - 1) (cn - 1), .int .i64 0]) (by simp [results, Try.results81, go_sem]) rfl ?_
              obtain ⟨zss, q1, q2, q3⟩ := HE.out
              exact ⟨⟨_, _, _, _, zss, rfl, hr, hc, hl, q1, q2, q3⟩, rdr_more hrr (by omega), htt⟩
  · go_wp2_with fail
    refine (pick_any g (B + 4) _ _ r1 (by omega)).mono ?_
    rintro e w2 ⟨x, rfl, -, r2, t2, -⟩
    have t12 := turned_trans t1 t2
    clear r1 t1 t2
    go_wp2_with fail
    refine (specDiagonalShots_any r c _ x _).mono ?_
    rintro e w3 ⟨v, us, rfl, o3, b3⟩
    obtain ⟨nn, C, hn6, hC6, hbits⟩ := bits_diag r c l x
    have hg2 := rdr_lt r2
    obtain ⟨A, cn, e9, -⟩ := o3.rd
    rw [hbits.1] at e9
    subst e9
    have hs2 : w.heap.size ≤ w2.heap.size := t12.size
    have st : DrS w g w2.heap.size w3.heap.size (B + 5) nn C (.slice A nn cn) us w3 := ⟨⟨_, o3, hbits⟩, rdr_keep r2 (fun k hk => b3.block k (by omega)), turned_below t12 (b3.mono hs2), hg2, Nat.le_refl _, hs2⟩
    have ST := Lib.hid st
    have hrd := st.rdr
    clear st o3 b3 r2 t12 hbits
    go_wp2_with fail
    refine (pick_any g (B + 5) 2 _ hrd (by omega)).mono ?_
    rintro e w4 ⟨y, rfl, ⟨hy0, hy1, -⟩, r4, t4, -⟩
    have hy2 := hy1 (by omega)
    have st := ST.out.pick r4 t4
    clear ST hrd r4 t4 hy1
    by_cases hyz : y = 0
    · subst hyz
      have ST := Lib.hid st
      clear st
      go_wp2_with fail
      go_loopw [12] (fun i wr => ∃ k D : Nat, k ≤ nn ∧ i = .int .i64 k ∧ D ≤ B + 6 + 6 * k ∧ DrS w g w2.heap.size w3.heap.size D nn C (.slice A nn cn) us wr) (fun i _ => nn - (intOf i).toNat)
      case atStart => exact ⟨0, B + 5 + 1, Nat.zero_le _, rfl, by omega, ST.out⟩
      case round =>
        clear ST
        obtain ⟨k, D, hk, rfl, hD, st⟩ := hrel
        by_cases hlt : k < nn
        · have ST := Lib.hid st
          clear st
          go_wp2_with fail
          go_loopw [13] (fun i wr => ∃ j D : Nat, j ≤ C ∧ i = .int .i64 j ∧ D ≤ B + 6 + 6 * k + j ∧ DrS w g w2.heap.size w3.heap.size D nn C (.slice A nn cn) us wr) (fun i _ => C - (intOf i).toNat)
          case atStart => exact ⟨0, D, Nat.zero_le _, rfl, by omega, ST.out⟩
          case round =>
            clear ST
            obtain ⟨j, D, hj, rfl, hD2, st⟩ := hrel
            by_cases hjl : j < C
            · obtain ⟨g0, A0, c0, rfl, x0, hnc, hcm⟩ := st.rowc hlt
              have ST := Lib.hid st
              have hrd := st.rdr
              clear st
              go_wp2_with fail
              refine (pick_any g D 5 _ hrd (by omega)).mono ?_
              rintro e w5 ⟨q, rfl, ⟨hq0, hq1, -⟩, r5, t5, -⟩
              have hq2 := hq1 (by omega)
              have st := ST.out.pick r5 t5
              clear ST hrd r5 t5 hq1 x0
              by_cases hqz : q = 0
              · subst hqz
                obtain ⟨g1, b, cb, z, e9, c1, c2, c3, hz, c4, c5⟩ := st.cell hlt hjl
                injection e9 with e9
                injection e9 with e9 e10
                subst e9
                have C5 := Lib.hid c5
                clear st c5
                go_wp2_with fail
                go_region
                go_wp2
                go_roundw
                case rel => exact ⟨j + 1, D + 1, by omega, by go_num, by omega, C5.out.drew1⟩
                case measure => simp [intOf]; omega
              · have hqq : (q == 0) = false := by simpa using hqz
                have ST := Lib.hid st
                clear st
                go_wp2
                go_roundw
                case rel => exact ⟨j + 1, D + 1, by omega, by go_num, by omega, ST.out⟩
                case measure => simp [intOf]; omega
            · have hj' : j = C := by omega
              subst hj'
              obtain ⟨g0, A0, c0, rfl, x0, hnc, hcm⟩ := st.rowc hlt
              have ST := Lib.hid st
              clear st
              go_wp2
              go_roundw
              case rel => exact ⟨k + 1, D, by omega, by go_num, by omega, ST.out⟩
              case measure => simp [intOf]; omega
        · have hk' : k = nn := by omega
          subst hk'
          have ST := Lib.hid st
          clear st
          have hD9 : D ≤ B + 60 := by omega
          have hrd := ST.out.rdr
          go_wp2_with fail
          refine (odd_any g _ n _ hrd (by omega)).mono ?_
          rintro e w6 ⟨b, rfl, -, r6, t6, -⟩
          have st6 := ST.out.pick r6 t6
          clear ST hrd r6 t6
          rcases b with _ | _
          · have HE := Lib.hid (st6.fin hn6 hC6)
            have hrr := st6.rdr
            have htt := st6.turned
            clear st6
            go_wp2
            refine bodyPost_ret (v := .tuple #[.int .i64 r, .int .i64 c, .slice A k cn, .int .i64 l]) (by simp [results, Try.results81, go_sem]) rfl ?_
            obtain ⟨zss, q1, q2, q3⟩ := HE.out
            exact ⟨⟨_, _, _, _, zss, rfl, hr, hc, hl, q1, q2, q3⟩, rdr_more hrr (by omega), htt⟩
          · by_cases hn0 : k = 0
            · subst hn0
              have HE := Lib.hid (st6.fin hn6 hC6)
              have hrr := st6.rdr
              have htt := st6.turned
              clear st6
              go_wp2
              refine bodyPost_ret (v := .tuple #[.int .i64 r, .int .i64 c, .slice A 0 cn, .int .i64 l]) (by simp [results, Try.results81, go_sem]) rfl ?_
              obtain ⟨zss, q1, q2, q3⟩ := HE.out
              exact ⟨⟨_, _, _, _, zss, rfl, hr, hc, hl, q1, q2, q3⟩, rdr_more hrr (by omega), htt⟩
            · have hn0' : (0 : Int) < k := by omega
              have ST6 := Lib.hid st6
              have hrd6 := st6.rdr
              clear st6
              go_wp2_with fail
              refine (pick_any g _ 2 _ hrd6 (by omega)).mono ?_
              rintro e w7 ⟨q, rfl, ⟨hq0, hq1, -⟩, r7, t7, -⟩
              have hq2 := hq1 (by omega)
              have st7 := ST6.out.pick r7 t7
              clear ST6 hrd6 r7 t7 hq1
              obtain ⟨g0, A0, c0, rfl, x0, hnc, hcm⟩ := st7.rowc (k := 0) (by omega)
              by_cases hqz : q = 0
              · subst hqz
                obtain ⟨HE, hrr, htt, ⟨u, hu⟩, hfz, hgl⟩ := st7.empty hn6 hC6 (by omega)
                have HEE := Lib.hid HE; have HRR := Lib.hid hrr; have HTT := Lib.hid htt
                clear HE hrr htt st7
                go_wp2
                refine bodyPost_ret (v := .tuple #[.int .i64 r, .int .i64 c, .slice (some ⟨g0, 0, none⟩) k cn, .int .i64 l]) (by simp [results, Try.results81, go_sem]) rfl ?_
                obtain ⟨zss, q1, q2, q3⟩ := HEE.out
                exact ⟨⟨_, _, _, _, zss, rfl, hr, hc, hl, q1, q2, q3⟩, rdr_more HRR.out (by omega), HTT.out⟩
              · have hqq : (q == 0) = false := by simpa using hqz
                by_cases hcn : cn = 1
                · subst hcn
                  have hrr := st7.rdr
                  have htt := st7.turned
                  clear st7
                  go_wp2
                  refine bodyPost_ret (v := .tuple #[.int .i64 r, .int .i64 c, .slice (some ⟨g0, 0, none⟩) 0 0, .int .i64 l]) (by simp [results, Try.results81, go_sem]) rfl ?_
                  exact ⟨⟨_, _, _, _, [], rfl, hr, hc, hl, ⟨⟨_, _, rfl, by simp, by omega, fun h => absurd h (by simp)⟩, fun _ _ => ⟨_, _, rfl, by simp, by omega, fun h => absurd h (by simp)⟩⟩, by simp, by simp⟩, rdr_more hrr (by omega), htt⟩
                · have HE := Lib.hid (st7.tail hn6 hC6 (by omega))
                  have hrr := st7.rdr
                  have htt := st7.turned
                  clear st7
                  go_wp2
                  refine bodyPost_ret (v := .tuple #[.int .i64 r, .int .i64 c, .slice (some ⟨g0, 1, none⟩) (k - 1) (cn - 1), .int .i64 l]) (by simp [results, Try.results81, go_sem]) rfl ?_
                  obtain ⟨zss, q1, q2, q3⟩ := HE.out
                  exact ⟨⟨_, _, _, _, zss, rfl, hr, hc, hl, q1, q2, q3⟩, rdr_more hrr (by omega), htt⟩
    · have hyq : (y == 0) = false := by simpa using hyz
      have ST := Lib.hid st
      clear st
      have hrd := ST.out.rdr
      go_wp2_with fail
      refine (odd_any g _ n _ hrd (by omega)).mono ?_
      rintro e w6 ⟨b, rfl, -, r6, t6, -⟩
      have st6 := ST.out.pick r6 t6
      clear ST hrd r6 t6
      rcases b with _ | _
      · have HE := Lib.hid (st6.fin hn6 hC6)
        have hrr := st6.rdr
        have htt := st6.turned
        clear st6
        go_wp2
        refine bodyPost_ret (v := .tuple #[.int .i64 r, .int .i64 c, .slice A nn cn, .int .i64 l]) (by simp [results, Try.results81, go_sem]) rfl ?_
        obtain ⟨zss, q1, q2, q3⟩ := HE.out
        exact ⟨⟨_, _, _, _, zss, rfl, hr, hc, hl, q1, q2, q3⟩, rdr_more hrr (by omega), htt⟩
      · by_cases hn0 : nn = 0
        · subst hn0
          have HE := Lib.hid (st6.fin hn6 hC6)
          have hrr := st6.rdr
          have htt := st6.turned
          clear st6
          go_wp2
          refine bodyPost_ret (v := .tuple #[.int .i64 r, .int .i64 c, .slice A 0 cn, .int .i64 l]) (by simp [results, Try.results81, go_sem]) rfl ?_
          obtain ⟨zss, q1, q2, q3⟩ := HE.out
          exact ⟨⟨_, _, _, _, zss, rfl, hr, hc, hl, q1, q2, q3⟩, rdr_more hrr (by omega), htt⟩
        · have hn0' : (0 : Int) < nn := by omega
          have ST6 := Lib.hid st6
          have hrd6 := st6.rdr
          clear st6
          go_wp2_with fail
          refine (pick_any g _ 2 _ hrd6 (by omega)).mono ?_
          rintro e w7 ⟨q, rfl, ⟨hq0, hq1, -⟩, r7, t7, -⟩
          have hq2 := hq1 (by omega)
          have st7 := ST6.out.pick r7 t7
          clear ST6 hrd6 r7 t7 hq1
          obtain ⟨g0, A0, c0, rfl, x0, hnc, hcm⟩ := st7.rowc (k := 0) (by omega)
          by_cases hqz : q = 0
          · subst hqz
            obtain ⟨HE, hrr, htt, ⟨u, hu⟩, hfz, hgl⟩ := st7.empty hn6 hC6 (by omega)
            have HEE := Lib.hid HE; have HRR := Lib.hid hrr; have HTT := Lib.hid htt
            clear HE hrr htt st7
            go_wp2
            refine bodyPost_ret (v := .tuple #[.int .i64 r, .int .i64 c, .slice (some ⟨g0, 0, none⟩) nn cn, .int .i64 l]) (by simp [results, Try.results81, go_sem]) rfl ?_
            obtain ⟨zss, q1, q2, q3⟩ := HEE.out
            exact ⟨⟨_, _, _, _, zss, rfl, hr, hc, hl, q1, q2, q3⟩, rdr_more HRR.out (by omega), HTT.out⟩
          · have hqq : (q == 0) = false := by simpa using hqz
            by_cases hcn : cn = 1
            · subst hcn
              have hrr := st7.rdr
              have htt := st7.turned
              clear st7
              go_wp2
              refine bodyPost_ret (v := .tuple #[.int .i64 r, .int .i64 c, .slice (some ⟨g0, 0, none⟩) 0 0, .int .i64 l]) (by simp [results, Try.results81, go_sem]) rfl ?_
              exact ⟨⟨_, _, _, _, [], rfl, hr, hc, hl, ⟨⟨_, _, rfl, by simp, by omega, fun h => absurd h (by simp)⟩, fun _ _ => ⟨_, _, rfl, by simp, by omega, fun h => absurd h (by simp)⟩⟩, by simp, by simp⟩, rdr_more hrr (by omega), htt⟩
            · have HE := Lib.hid (st7.tail hn6 hC6 (by omega))
              have hrr := st7.rdr
              have htt := st7.turned
              clear st7
              go_wp2
              refine bodyPost_ret (v := .tuple #[.int .i64 r, .int .i64 c, .slice (some ⟨g0, 1, none⟩) (nn - 1) (cn - 1), .int .i64 l]) (by simp [results, Try.results81, go_sem]) rfl ?_
              obtain ⟨zss, q1, q2, q3⟩ := HE.out
              exact ⟨⟨_, _, _, _, zss, rfl, hr, hc, hl, q1, q2, q3⟩, rdr_more hrr (by omega), htt⟩
  · go_wp2_with fail
    refine (pick_any g (B + 4) _ _ r1 (by omega)).mono ?_
    rintro e w2 ⟨x, rfl, -, r2, t2, -⟩
    have t12 := turned_trans t1 t2
    clear r1 t1 t2
    go_wp2_with fail
    refine (specDiagonalShots_any r c _ x _).mono ?_
    rintro e w3 ⟨v, us, rfl, o3, b3⟩
    obtain ⟨nn, C, hn6, hC6, hbits⟩ := bits_diag r c 7 x
    have hg2 := rdr_lt r2
    obtain ⟨A, cn, e9, -⟩ := o3.rd
    rw [hbits.1] at e9
    subst e9
    have hs2 : w.heap.size ≤ w2.heap.size := t12.size
    have st : DrS w g w2.heap.size w3.heap.size (B + 5) nn C (.slice A nn cn) us w3 := ⟨⟨_, o3, hbits⟩, rdr_keep r2 (fun k hk => b3.block k (by omega)), turned_below t12 (b3.mono hs2), hg2, Nat.le_refl _, hs2⟩
    have ST := Lib.hid st
    have hrd := st.rdr
    clear st o3 b3 r2 t12 hbits
    go_wp2_with fail
    refine (pick_any g (B + 5) 2 _ hrd (by omega)).mono ?_
    rintro e w4 ⟨y, rfl, ⟨hy0, hy1, -⟩, r4, t4, -⟩
    have hy2 := hy1 (by omega)
    have st := ST.out.pick r4 t4
    clear ST hrd r4 t4 hy1
    by_cases hyz : y = 0
    · subst hyz
      have ST := Lib.hid st
      clear st
      go_wp2_with fail
      go_loopw [12] (fun i wr => ∃ k D : Nat, k ≤ nn ∧ i = .int .i64 k ∧ D ≤ B + 6 + 6 * k ∧ DrS w g w2.heap.size w3.heap.size D nn C (.slice A nn cn) us wr) (fun i _ => nn - (intOf i).toNat)
      case atStart => exact ⟨0, B + 5 + 1, Nat.zero_le _, rfl, by omega, ST.out⟩
      case round =>
        clear ST
        obtain ⟨k, D, hk, rfl, hD, st⟩ := hrel
        by_cases hlt : k < nn
        · have ST := Lib.hid st
          clear st
          go_wp2_with fail
          go_loopw [13] (fun i wr => ∃ j D : Nat, j ≤ C ∧ i = .int .i64 j ∧ D ≤ B + 6 + 6 * k + j ∧ DrS w g w2.heap.size w3.heap.size D nn C (.slice A nn cn) us wr) (fun i _ => C - (intOf i).toNat)
          case atStart => exact ⟨0, D, Nat.zero_le _, rfl, by omega, ST.out⟩
          case round =>
            clear ST
            obtain ⟨j, D, hj, rfl, hD2, st⟩ := hrel
            by_cases hjl : j < C
            · obtain ⟨g0, A0, c0, rfl, x0, hnc, hcm⟩ := st.rowc hlt
              have ST := Lib.hid st
              have hrd := st.rdr
              clear st
              go_wp2_with fail
              refine (pick_any g D 5 _ hrd (by omega)).mono ?_
              rintro e w5 ⟨q, rfl, ⟨hq0, hq1, -⟩, r5, t5, -⟩
              have hq2 := hq1 (by omega)
              have st := ST.out.pick r5 t5
              clear ST hrd r5 t5 hq1 x0
              by_cases hqz : q = 0
              · subst hqz
                obtain ⟨g1, b, cb, z, e9, c1, c2, c3, hz, c4, c5⟩ := st.cell hlt hjl
                injection e9 with e9
                injection e9 with e9 e10
                subst e9
                have C5 := Lib.hid c5
                clear st c5
                go_wp2_with fail
                go_region
                go_wp2
                go_roundw
                case rel => exact ⟨j + 1, D + 1, by omega, by go_num, by omega, C5.out.drew1⟩
                case measure => simp [intOf]; omega
              · have hqq : (q == 0) = false := by simpa using hqz
                have ST := Lib.hid st
                clear st
                go_wp2
                go_roundw
                case rel => exact ⟨j + 1, D + 1, by omega, by go_num, by omega, ST.out⟩
                case measure => simp [intOf]; omega
            · have hj' : j = C := by omega
              subst hj'
              obtain ⟨g0, A0, c0, rfl, x0, hnc, hcm⟩ := st.rowc hlt
              have ST := Lib.hid st
              clear st
              go_wp2
              go_roundw
              case rel => exact ⟨k + 1, D, by omega, by go_num, by omega, ST.out⟩
              case measure => simp [intOf]; omega
        · have hk' : k = nn := by omega
          subst hk'
          have ST := Lib.hid st
          clear st
          have hD9 : D ≤ B + 60 := by omega
          have hrd := ST.out.rdr
          go_wp2_with fail
          refine (odd_any g _ n _ hrd (by omega)).mono ?_
          rintro e w6 ⟨b, rfl, -, r6, t6, -⟩
          have st6 := ST.out.pick r6 t6
          clear ST hrd r6 t6
          rcases b with _ | _
          · have HE := Lib.hid (st6.fin hn6 hC6)
            have hrr := st6.rdr
            have htt := st6.turned
            clear st6
            go_wp2
            refine bodyPost_ret (v := .tuple #[.int .i64 r, .int .i64 c, .slice A k cn, .int .i64 7]) (by simp [results, Try.results81, go_sem]) rfl ?_
            obtain ⟨zss, q1, q2, q3⟩ := HE.out
            exact ⟨⟨_, _, _, _, zss, rfl, hr, hc, hl, q1, q2, q3⟩, rdr_more hrr (by omega), htt⟩
          · by_cases hn0 : k = 0
            · subst hn0
              have HE := Lib.hid (st6.fin hn6 hC6)
              have hrr := st6.rdr
              have htt := st6.turned
              clear st6
              go_wp2
              refine bodyPost_ret (v := .tuple #[.int .i64 r, .int .i64 c, .slice A 0 cn, .int .i64 7]) (by simp [results, Try.results81, go_sem]) rfl ?_
              obtain ⟨zss, q1, q2, q3⟩ := HE.out
              exact ⟨⟨_, _, _, _, zss, rfl, hr, hc, hl, q1, q2, q3⟩, rdr_more hrr (by omega), htt⟩
            · have hn0' : (0 : Int) < k := by omega
              have ST6 := Lib.hid st6
              have hrd6 := st6.rdr
              clear st6
              go_wp2_with fail
              refine (pick_any g _ 2 _ hrd6 (by omega)).mono ?_
              rintro e w7 ⟨q, rfl, ⟨hq0, hq1, -⟩, r7, t7, -⟩
              have hq2 := hq1 (by omega)
              have st7 := ST6.out.pick r7 t7
              clear ST6 hrd6 r7 t7 hq1
              obtain ⟨g0, A0, c0, rfl, x0, hnc, hcm⟩ := st7.rowc (k := 0) (by omega)
              by_cases hqz : q = 0
              · subst hqz
                obtain ⟨HE, hrr, htt, ⟨u, hu⟩, hfz, hgl⟩ := st7.empty hn6 hC6 (by omega)
                have HEE := Lib.hid HE; have HRR := Lib.hid hrr; have HTT := Lib.hid htt
                clear HE hrr htt st7
                go_wp2
                refine bodyPost_ret (v := .tuple #[.int .i64 r, .int .i64 c, .slice (some ⟨g0, 0, none⟩) k cn, .int .i64 7]) (by simp [results, Try.results81, go_sem]) rfl ?_
                obtain ⟨zss, q1, q2, q3⟩ := HEE.out
                exact ⟨⟨_, _, _, _, zss, rfl, hr, hc, hl, q1, q2, q3⟩, rdr_more HRR.out (by omega), HTT.out⟩
              · have hqq : (q == 0) = false := by simpa using hqz
                by_cases hcn : cn = 1
                · subst hcn
                  have hrr := st7.rdr
                  have htt := st7.turned
                  clear st7
                  go_wp2
                  refine bodyPost_ret (v := .tuple #[.int .i64 r, .int .i64 c, .slice (some ⟨g0, 0, none⟩) 0 0, .int .i64 7]) (by simp [results, Try.results81, go_sem]) rfl ?_
                  exact ⟨⟨_, _, _, _, [], rfl, hr, hc, hl, ⟨⟨_, _, rfl, by simp, by omega, fun h => absurd h (by simp)⟩, fun _ _ => ⟨_, _, rfl, by simp, by omega, fun h => absurd h (by simp)⟩⟩, by simp, by simp⟩, rdr_more hrr (by omega), htt⟩
                · have HE := Lib.hid (st7.tail hn6 hC6 (by omega))
                  have hrr := st7.rdr
                  have htt := st7.turned
                  clear st7
                  go_wp2
                  refine bodyPost_ret (v := .tuple #[.int .i64 r, .int .i64 c, .slice (some ⟨g0, 1, none⟩) (k - 1) (cn - 1), .int .i64 7]) (by simp [results, Try.results81, go_sem]) rfl ?_
                  obtain ⟨zss, q1, q2, q3⟩ := HE.out
                  exact ⟨⟨_, _, _, _, zss, rfl, hr, hc, hl, q1, q2, q3⟩, rdr_more hrr (by omega), htt⟩
    · have hyq : (y == 0) = false := by simpa using hyz
      have ST := Lib.hid st
      clear st
      have hrd := ST.out.rdr
      go_wp2_with fail
      refine (odd_any g _ n _ hrd (by omega)).mono ?_
      rintro e w6 ⟨b, rfl, -, r6, t6, -⟩
      have st6 := ST.out.pick r6 t6
      clear ST hrd r6 t6
      rcases b with _ | _
      · have HE := Lib.hid (st6.fin hn6 hC6)
        have hrr := st6.rdr
        have htt := st6.turned
        clear st6
        go_wp2
        refine bodyPost_ret (v := .tuple #[.int .i64 r, .int .i64 c, .slice A nn cn, .int .i64 7]) (by simp [results, Try.results81, go_sem]) rfl ?_
        obtain ⟨zss, q1, q2, q3⟩ := HE.out
        exact ⟨⟨_, _, _, _, zss, rfl, hr, hc, hl, q1, q2, q3⟩, rdr_more hrr (by omega), htt⟩
      · by_cases hn0 : nn = 0
        · subst hn0
          have HE := Lib.hid (st6.fin hn6 hC6)
          have hrr := st6.rdr
          have htt := st6.turned
          clear st6
          go_wp2
          refine bodyPost_ret (v := .tuple #[.int .i64 r, .int .i64 c, .slice A 0 cn, .int .i64 7]) (by simp [results, Try.results81, go_sem]) rfl ?_
          obtain ⟨zss, q1, q2, q3⟩ := HE.out
          exact ⟨⟨_, _, _, _, zss, rfl, hr, hc, hl, q1, q2, q3⟩, rdr_more hrr (by omega), htt⟩
        · have hn0' : (0 : Int) < nn := by omega
          have ST6 := Lib.hid st6
          have hrd6 := st6.rdr
          clear st6
          go_wp2_with fail
          refine (pick_any g _ 2 _ hrd6 (by omega)).mono ?_
          rintro e w7 ⟨q, rfl, ⟨hq0, hq1, -⟩, r7, t7, -⟩
          have hq2 := hq1 (by omega)
          have st7 := ST6.out.pick r7 t7
          clear ST6 hrd6 r7 t7 hq1
          obtain ⟨g0, A0, c0, rfl, x0, hnc, hcm⟩ := st7.rowc (k := 0) (by omega)
          by_cases hqz : q = 0
          · subst hqz
            obtain ⟨HE, hrr, htt, ⟨u, hu⟩, hfz, hgl⟩ := st7.empty hn6 hC6 (by omega)
            have HEE := Lib.hid HE; have HRR := Lib.hid hrr; have HTT := Lib.hid htt
            clear HE hrr htt st7
            go_wp2
            refine bodyPost_ret (v := .tuple #[.int .i64 r, .int .i64 c, .slice (some ⟨g0, 0, none⟩) nn cn, .int .i64 7]) (by simp [results, Try.results81, go_sem]) rfl ?_
            obtain ⟨zss, q1, q2, q3⟩ := HEE.out
            exact ⟨⟨_, _, _, _, zss, rfl, hr, hc, hl, q1, q2, q3⟩, rdr_more HRR.out (by omega), HTT.out⟩
          · have hqq : (q == 0) = false := by simpa using hqz
            by_cases hcn : cn = 1
            · subst hcn
              have hrr := st7.rdr
              have htt := st7.turned
              clear st7
              go_wp2
              refine bodyPost_ret (v := .tuple #[.int .i64 r, .int .i64 c, .slice (some ⟨g0, 0, none⟩) 0 0, .int .i64 7]) (by simp [results, Try.results81, go_sem]) rfl ?_
              exact ⟨⟨_, _, _, _, [], rfl, hr, hc, hl, ⟨⟨_, _, rfl, by simp, by omega, fun h => absurd h (by simp)⟩, fun _ _ => ⟨_, _, rfl, by simp, by omega, fun h => absurd h (by simp)⟩⟩, by simp, by simp⟩, rdr_more hrr (by omega), htt⟩
            · have HE := Lib.hid (st7.tail hn6 hC6 (by omega))
              have hrr := st7.rdr
              have htt := st7.turned
              clear st7
              go_wp2
              refine bodyPost_ret (v := .tuple #[.int .i64 r, .int .i64 c, .slice (some ⟨g0, 1, none⟩) (nn - 1) (cn - 1), .int .i64 7]) (by simp [results, Try.results81, go_sem]) rfl ?_
              obtain ⟨zss, q1, q2, q3⟩ := HE.out
              exact ⟨⟨_, _, _, _, zss, rfl, hr, hc, hl, q1, q2, q3⟩, rdr_more hrr (by omega), htt⟩
end Go.Proofs.Ytahamfgkcnepgaa

/- How many fields of a ship are hit. -/
import Derived.Test.YtahamfgkcnepgaaPlaces
namespace Go.Proofs.Ytahamfgkcnepgaa
open Go.RowKit

def hitAt (zss : List (List Int)) (r c : Nat) : Int := (zss.getD r []).getD c 0
/-- How many of the first n fields of a ship are hit; d: 0 or 1. -/
def hN (zss : List (List Int)) (r c d n : Nat) : Int := sumI ((List.range n).map fun k => hitAt zss (r + k * d) (c + k * (1 - d)))
theorem hN_succ (zss : List (List Int)) (r c d n : Nat) : hN zss r c d (n + 1) = hN zss r c d n + hitAt zss (r + n * d) (c + n * (1 - d)) := by
  unfold hN; rw [List.range_succ, List.map_append, sumI_append]; simp [sumI]

/-- A ship of L fields at (r, c), d of it down, lies on a board of R rows and C columns. -/
def Lies (R C L r c d : Nat) : Prop := (d = 0 ∧ r < R ∧ c + L ≤ C) ∨ (d = 1 ∧ r + L ≤ R ∧ c < C)

theorem mem_cellPl {R C L r c : Nat} {p : Pl} (hr : r < R) (hc : c < C) (h : p ∈ cellPl R C L r c) : ∃ d : Nat, p = ((r : Int), (c : Int), (d : Int)) ∧ Lies R C L r c d := by
  unfold cellPl at h
  rcases List.mem_append.1 h with h | h
  · split at h
    · rename_i h1
      rw [List.mem_singleton] at h
      exact ⟨0, h, .inl ⟨rfl, hr, h1⟩⟩
    · cases h
  · split at h
    · rename_i h1
      rw [List.mem_singleton] at h
      exact ⟨1, h, .inr ⟨rfl, h1.1, hc⟩⟩
    · cases h
theorem mem_placesI {rows cols long : Int} {p : Pl} (h : p ∈ placesI rows cols long) : ∃ R C L r c d : Nat, rows = R ∧ cols = C ∧ long = L ∧ placesB rows cols long = true ∧ p = ((r : Int), (c : Int), (d : Int)) ∧ Lies R C L r c d ∧ 1 ≤ L := by
  unfold placesI at h
  split at h
  · rename_i hb
    obtain ⟨h1, h2, h3⟩ := placesB_yes hb
    unfold placesL at h
    obtain ⟨r, hr, h⟩ := List.mem_flatMap.1 h
    unfold rowPl at h
    obtain ⟨c, hc, h⟩ := List.mem_flatMap.1 h
    obtain ⟨d, e, hd⟩ := mem_cellPl (List.mem_range.1 hr) (List.mem_range.1 hc) h
    exact ⟨rows.toNat, cols.toNat, long.toNat, r, c, d, by omega, by omega, by omega, hb, e, hd, by omega⟩
  · cases h

def hitsI (rows cols : Int) (zss : List (List Int)) (p : Pl) (long : Int) : Int := if shotsB rows cols zss && (placesI rows cols long).contains p then hN zss p.1.toNat p.2.1.toNat p.2.2.toNat long.toNat else -1

theorem hitAt_bd {R C : Nat} {zss : List (List Int)} (h : shotsB R C zss = true) {r c : Nat} (hr : r < R) (hc : c < C) : 0 ≤ hitAt zss r c ∧ hitAt zss r c ≤ 1 := by
  obtain ⟨_, _, h3, h4⟩ := shotsB_yes h
  have hm : zss.getD r [] ∈ zss := by simp [List.getD, List.getElem?_eq_getElem (show r < zss.length by omega)]
  obtain ⟨h5, h6⟩ := h4 _ hm
  refine h6 _ ?_
  unfold hitAt
  generalize zss.getD r [] = zs at *
  simp [List.getD, List.getElem?_eq_getElem (show c < zs.length by omega)]
theorem lies_at {R C L r c d k : Nat} (h : Lies R C L r c d) (hk : k < L) : r + k * d < R ∧ c + k * (1 - d) < C := by
  rcases h with ⟨rfl, h1, h2⟩ | ⟨rfl, h1, h2⟩
  · simp; omega
  · simp; omega
theorem hN_bd {R C L r c d : Nat} {zss : List (List Int)} (h : shotsB R C zss = true) (hl : Lies R C L r c d) : ∀ k, k ≤ L → 0 ≤ hN zss r c d k ∧ hN zss r c d k ≤ k
  | 0, _ => by simp [hN, sumI]
  | k + 1, hk => by
    have i := hN_bd h hl k (by omega)
    obtain ⟨h1, h2⟩ := lies_at hl (k := k) (by omega)
    have := hitAt_bd h h1 h2
    rw [hN_succ]; omega

/-- Shots are read field by field. -/
theorem rdR_cell {w : World} {a : Option Addr} {n cp r c : Nat} {zss : List (List Int)} {cols : Int} (h : RdR w (.slice a n cp) zss) (hr : r < zss.length) (hc : (c : Int) < cols) (hrow : ∀ zs ∈ zss, (zs.length : Int) = cols ∧ ∀ z ∈ zs, 0 ≤ z ∧ z ≤ 1) :
    ∃ g off b o m cb, a = some ⟨g, off, none⟩ ∧ n = zss.length ∧ n ≤ cp ∧ cp ≤ 9223372036854775807 ∧ w.cell? ⟨g, off + r, none⟩ = some (.slice (some ⟨b, o, none⟩) m cb) ∧ (m : Int) = cols ∧ m ≤ cb ∧ cb ≤ 9223372036854775807 ∧ w.cell? ⟨b, o + c, none⟩ = some (.int .i64 (hitAt zss r c)) := by
  obtain ⟨a', cp', e, l1, m1, r1⟩ := h
  injection e with e1 e2 e3
  subst e1 e3
  obtain ⟨g, off, A, d1, zs, e4, hg, x1, y1, Z1⟩ := rdR_at r1 r hr
  have hzr := hrow zs (by rw [Z1.out]; simp [List.getD, List.getElem?_eq_getElem hr])
  obtain ⟨A', d', e5, l2, m2, r2⟩ := y1
  injection e5 with e6 e7 e8
  subst e6 e8
  obtain ⟨b, o, z, e9, hg2, x2, HZ⟩ := rd_at r2 c (by omega)
  subst e9
  refine ⟨g, off, b, o, zs.length, d1, e4, e2, by omega, m1, x1, hzr.1, l2, m2, ?_⟩
  rw [x2, HZ.out]
  unfold hitAt
  rw [← Z1.out]

set_option maxHeartbeats 1600000 in
set_option maxRecDepth 100000 in
theorem hits_any (v : Value) (zss : List (List Int)) (R C L r c d : Nat) (w : World) (h : RdR w v zss) (hs : shotsB R C zss = true) (hl : Lies R C L r c d) (hL : L ≤ 6) (hL1 : 1 ≤ L) :
    Calls Try.prog 75 #[v, .agg #[.int .i64 r, .int .i64 c, .int .i64 d], .int .i64 L] w fun e w' => e = .returned (.int .i64 (hN zss r c d L)) ∧ Below w.heap.size w w' := by
  obtain ⟨hR6, hC6, hn, hrow⟩ := shotsB_yes hs
  have HROW := Lib.hid hrow
  have HBD := Lib.hid (hN_bd hs hl)
  have HLA := Lib.hid (fun k => lies_at (k := k) hl)
  have HHB := Lib.hid (fun r c hr hc => hitAt_bd hs (r := r) (c := c) hr hc)
  obtain ⟨W, hW⟩ : ∃ W : World, W = w.alloc (.cells #[.int .i64 r, .int .i64 c, .int .i64 d] 26) := ⟨_, rfl⟩
  have hbW : Below w.heap.size w W := by rw [hW]; exact (Below.refl _ _).alloc (Nat.le_refl _) _
  have hsW : W.heap.size = w.heap.size + 1 := by rw [hW]; simp
  have g1 : W.heap[w.heap.size]? = some (.cells #[.int .i64 r, .int .i64 c, .int .i64 d] 26 (0, 0)) := by rw [hW]; exact heap_alloc_new _ _
  have HRW := Lib.hid (h.below hbW)
  have HW := Lib.hid hW; have HG := Lib.hid g1; have HB := Lib.hid hbW
  obtain ⟨a, cp, rfl, l1, m1, -⟩ := h
  have hd : d = 0 ∨ d = 1 := by rcases hl with h | h <;> omega
  have hrc : r < 6 ∧ c < 6 := by rcases hl with h | h <;> omega
  clear hW g1 hbW hs hrow
  go_enter Try.func75, Try.ntmps75
  go_wp2_with fail
  rw [← HW.out]
  go_loopw [7, 12] (fun s i wr => ∃ k : Nat, k ≤ L ∧ i = .int .i64 k ∧ s = .int .i64 (hN zss r c d k) ∧ Below W.heap.size W wr) (fun _ i _ => L - (intOf i).toNat)
  case atStart => exact ⟨0, Nat.zero_le _, rfl, rfl, Below.refl _ _⟩
  case round =>
    obtain ⟨k, hk, rfl, rfl, hb⟩ := hrel
    have hbd := HBD.out k hk
    by_cases hlt : k < L
    · obtain ⟨⟨x0, x1, x2⟩, -, -, -, -⟩ := blk3 ((hb.block _ (by omega)).trans HG.out)
      have hsucc := hN_succ zss r c d k
      obtain ⟨S, hS⟩ : ∃ S, S = hN zss r c d k := ⟨_, rfl⟩
      rw [← hS] at hbd hsucc ⊢
      have HS := Lib.hid hsucc
      clear hsucc hS
      go_wp2_with fail
      refine (field_any r c d k _ (by omega) (by omega) (by omega) (by omega)).mono ?_
      rintro e w3 ⟨rfl, b3⟩
      have hb3 := hb.trans (b3.mono hb.size)
      obtain ⟨hr1, hc1⟩ := HLA.out k hlt
      have hhb := HHB.out _ _ hr1 hc1
      have er : (r : Int) + (k : Int) * (d : Int) = ((r + k * d : Nat) : Int) := by rw [Int.natCast_add, Int.natCast_mul]
      have ec : (c : Int) + (k : Int) * (1 - (d : Int)) = ((c + k * (1 - d) : Nat) : Int) := by
        rcases hd with rfl | rfl <;> simp
      rw [er, ec]
      generalize r + k * d = r' at *
      generalize c + k * (1 - d) = c' at *
      obtain ⟨g, off, b, o, m, cb, rfl, e2, l2, m2, y1, hm, l3, m3, y2⟩ := rdR_cell (r := r') (c := c') (HRW.out.below hb3) (by omega) (by omega) HROW.out
      have HB3 := Lib.hid hb3
      generalize hitAt zss r' c' = z at *
      have hr2 : (r' : Int) < zss.length := by omega
      have hc2 : (c' : Int) < m := by omega
      clear b3 hb3 hb x0 x1 x2 er ec hr1 hc1 e2
      go_wp2
      go_roundw
      case rel => exact ⟨k + 1, by omega, by go_num, by rw [HS.out], HB3.out⟩
      case measure => simp [intOf]; omega
    · have hk' : k = L := by omega
      subst hk'
      have HE := Lib.hid (HB.out.trans (hb.mono (by omega)))
      clear hb
      go_wp2
      go_ret
      exact ⟨rfl, HE.out⟩
end Go.Proofs.Ytahamfgkcnepgaa

/- ApartIn: the plain words, and the walk of the reference. -/
import Derived.Test.YtahamfgkcnepgaaHitsSp
import Derived.WalkMore
import Derived.Deep.LoopGhost
namespace Go.Proofs.Ytahamfgkcnepgaa
open Go.RowKit

def fIdx (r c d k : Nat) : Nat := (r + k * d) * 6 + (c + k * (1 - d))
def freeN (t : List Bool) (r c d n : Nat) : Bool := (List.range n).all fun k => !(t.getD (fIdx r c d k) false)
def takeN (t : List Bool) (r c d n : Nat) : List Bool := (List.range n).foldl (fun t k => t.set (fIdx r c d k) true) t
def stepA (L : Nat) (s : List Bool × Nat) (p : Pl) : List Bool × Nat := if freeN s.1 p.1.toNat p.2.1.toNat p.2.2.toNat L then (takeN s.1 p.1.toNat p.2.1.toNat p.2.2.toNat L, s.2 + 1) else s
/-- Nothing taken. -/
def T0 : List Bool := List.replicate 36 false
def apartL (L : Nat) (ps : List Pl) : List Bool × Nat := ps.foldl (stepA L) (T0, 0)
def apartI (rows cols long : Int) : Int := if placesB rows cols long then ((apartL long.toNat (placesI rows cols long)).2 : Int) else -1

theorem freeN_succ (t : List Bool) (r c d n : Nat) : freeN t r c d (n + 1) = (freeN t r c d n && !(t.getD (fIdx r c d n) false)) := by unfold freeN; rw [List.range_succ, List.all_append]; simp
theorem takeN_succ (t : List Bool) (r c d n : Nat) : takeN t r c d (n + 1) = (takeN t r c d n).set (fIdx r c d n) true := by unfold takeN; rw [List.range_succ, List.foldl_append]; rfl
theorem length_takeN (t : List Bool) (r c d : Nat) : ∀ n, (takeN t r c d n).length = t.length
  | 0 => rfl
  | n + 1 => by rw [takeN_succ, List.length_set, length_takeN t r c d n]
theorem freeN_bad {t : List Bool} {r c d n k : Nat} (hk : k < n) (h : t.getD (fIdx r c d k) false = true) : freeN t r c d n = false := by
  rw [Bool.eq_false_iff]
  intro h2
  unfold freeN at h2
  rw [List.all_eq_true] at h2
  have := h2 k (List.mem_range.2 hk)
  rw [h] at this; cases this
theorem apartL_snoc (L : Nat) (ps : List Pl) (k : Nat) (hk : k < ps.length) : apartL L (ps.take (k + 1)) = stepA L (apartL L (ps.take k)) (ps.getD k (0, 0, 0)) := by
  rw [takeP_snoc ps k hk]; unfold apartL; rw [List.foldl_append]; rfl
theorem stepA_len (L : Nat) (s : List Bool × Nat) (p : Pl) : (stepA L s p).1.length = s.1.length ∧ (stepA L s p).2 ≤ s.2 + 1 := by
  unfold stepA; split
  · exact ⟨length_takeN _ _ _ _ _, Nat.le_refl _⟩
  · exact ⟨rfl, Nat.le_succ _⟩
theorem apartL_bd (L : Nat) (ps : List Pl) : ∀ k, k ≤ ps.length → (apartL L (ps.take k)).1.length = 36 ∧ (apartL L (ps.take k)).2 ≤ k
  | 0, _ => by simp [apartL, T0]
  | k + 1, h => by
    have i := apartL_bd L ps k (by omega)
    have := stepA_len L (apartL L (ps.take k)) (ps.getD k (0, 0, 0))
    rw [apartL_snoc L ps k (by omega)]
    omega
theorem fIdx_lt {R C L r c d k : Nat} (h : Lies R C L r c d) (hk : k < L) (hR : R ≤ 6) (hC : C ≤ 6) : fIdx r c d k < 36 ∧ r + k * d < 6 ∧ c + k * (1 - d) < 6 := by
  have := lies_at h hk
  unfold fIdx; omega

def boolArr (t : List Bool) : Array Value := (t.map Value.bool).toArray

/-- The block g holds the bools t. -/
def BoolBlk (w : World) (g : Nat) (ty : TypeId) (t : List Bool) : Prop := w.heap[g]? = some (.cells (boolArr t) ty (0, 0))

theorem BoolBlk.cell {w : World} {g : Nat} {ty : TypeId} {t : List Bool} (h : BoolBlk w g ty t) (i : Nat) (hi : i < t.length) : w.cell? ⟨g, i, none⟩ = some (.bool (t.getD i false)) := by
  rw [cell_of_row w g i _ _ _ h]; simp [boolArr, List.getD, List.getElem?_eq_getElem hi]
theorem BoolBlk.frozen {w : World} {g : Nat} {ty : TypeId} {t : List Bool} (h : BoolBlk w g ty t) (i : Nat) : w.frozen? ⟨g, i, none⟩ = false := frozen_of_row w g i _ _ h
theorem BoolBlk.set {w : World} {g : Nat} {ty : TypeId} {t : List Bool} (h : BoolBlk w g ty t) (i : Nat) (b : Bool) : BoolBlk (w.setCell ⟨g, i, none⟩ (.bool b)) g ty (t.set i b) ∧ Turned g (g + 1) w (w.setCell ⟨g, i, none⟩ (.bool b)) := by
  refine ⟨?_, ⟨rfl, rfl, rfl, by simp, fun k hk hne => heap_setCell_other w ⟨g, i, none⟩ k _ (by show k ≠ g; omega)⟩⟩
  unfold BoolBlk
  rw [heap_setCell_same w g i _ _ _ h]
  simp [boolArr, List.map_set]
theorem BoolBlk.lt {w : World} {g : Nat} {ty : TypeId} {t : List Bool} (h : BoolBlk w g ty t) : g < w.heap.size := (Array.getElem?_eq_some_iff.1 h).1
theorem BoolBlk.below {w w' : World} {g B : Nat} {ty : TypeId} {t : List Bool} (h : BoolBlk w g ty t) (hb : Below B w w') (hg : g < B) : BoolBlk w' g ty t := (hb.block g hg).trans h

theorem infoBool : (Try.prog.info? 4).map (fun i => (i.zero, i.size, i.bytes)) = some (some (.bool false), 1, 1) := by kernel_rfl
theorem made36 : madeCells #[Value.bool false] 36 = boolArr T0 := by kernel_rfl

/-- A place on the list, on the board. -/
theorem place_lies {rows cols long : Int} {x y z : Int} (h : (x, y, z) ∈ placesI rows cols long) : ∃ R C r c d : Nat, x = r ∧ y = c ∧ z = d ∧ Lies R C long.toNat r c d ∧ R ≤ 6 ∧ C ≤ 6 := by
  obtain ⟨R, C, L, r, c, d, rfl, rfl, rfl, hb, hp, hl, hL1⟩ := mem_placesI h
  injection hp with e1 e2
  injection e2 with e2 e3
  obtain ⟨p1, p2, p3⟩ := placesB_yes hb
  exact ⟨R, C, r, c, d, e1, e2, e3, hl, by omega, by omega⟩

/-- What is read of the fields of a ship. -/
theorem fields_cell {w : World} {a : Option Addr} {n cp r c d L j : Nat} (h : RdR w (.slice a n cp) (fieldsL (r : Int) c d L)) (hd : d = 0 ∨ d = 1) (hj : j < L) :
    ∃ g off b o cb, a = some ⟨g, off, none⟩ ∧ w.cell? ⟨g, off + j, none⟩ = some (.slice (some ⟨b, o, none⟩) 2 cb) ∧ w.cell? ⟨b, o, none⟩ = some (.int .i64 ((r + j * d : Nat) : Int)) ∧ w.cell? ⟨b, o + 1, none⟩ = some (.int .i64 ((c + j * (1 - d) : Nat) : Int)) := by
  obtain ⟨a', cp', e, l1, m1, r1⟩ := h
  injection e with e1 e2 e3
  subst e1 e3
  rw [length_fieldsL] at r1
  obtain ⟨g, off, e4, hg, hc⟩ := r1 (by omega)
  obtain ⟨u, hu, A, cu, rfl, l2, m2, r2⟩ := hc j hj
  have hrow : (fieldsL (r : Int) c d L).getD j [] = [(r : Int) + j * d, (c : Int) + j * (1 - d)] := by simp [fieldsL, List.getD, hj]
  rw [hrow] at r2 hu
  obtain ⟨gu, ou, rfl, hgu, hcu⟩ := r2 (by simp)
  have c0 := hcu 0 (by simp)
  have c1 := hcu 1 (by simp)
  simp only [List.length_cons, List.length_nil, List.getD_cons_zero, List.getD_cons_succ, Nat.add_zero] at c0 c1 hu
  have er : (r : Int) + (j : Int) * (d : Int) = ((r + j * d : Nat) : Int) := by rw [Int.natCast_add, Int.natCast_mul]
  have ec : (c : Int) + (j : Int) * (1 - (d : Int)) = ((c + j * (1 - d) : Nat) : Int) := by
    rcases hd with rfl | rfl <;> simp
  rw [er] at c0
  rw [ec] at c1
  exact ⟨g, off, gu, ou, cu, e4, hu, c0, c1⟩

/-- What holds of the world between two places: the taken fields, the places, and what has been is kept. -/
structure ApI (ty : TypeId) (w wr : World) (hi n : Nat) (a : Option Addr) (cp : Nat) (ps : List Pl) (t : List Bool) : Prop where
  bl : BoolBlk wr n ty t
  below : Below w.heap.size w wr
  own : OwnP wr (n + 1) hi (.slice a ps.length cp) ps
  size : hi ≤ wr.heap.size
  lt : n < hi

theorem ApI.drew {ty : TypeId} {w wr : World} {hi n : Nat} {a : Option Addr} {cp : Nat} {ps : List Pl} {t : List Bool} (h : ApI ty w wr hi n a cp ps t) (m : Nat) : ApI ty w (wr.drewN m) hi n a cp ps t :=
  ⟨h.bl, below_drewN h.below m, h.own.keep fun _ _ _ => rfl, h.size, h.lt⟩
theorem ApI.on {ty : TypeId} {w wr w' : World} {hi n : Nat} {a : Option Addr} {cp : Nat} {ps : List Pl} {t : List Bool} (h : ApI ty w wr hi n a cp ps t) (hb : Below wr.heap.size wr w') : ApI ty w w' hi n a cp ps t :=
  ⟨h.bl.below hb h.bl.lt, h.below.trans (hb.mono h.below.size), h.own.below hb h.size, Nat.le_trans h.size hb.size, h.lt⟩
theorem ApI.set {ty : TypeId} {w wr : World} {hi n : Nat} {a : Option Addr} {cp : Nat} {ps : List Pl} {t : List Bool} (h : ApI ty w wr hi n a cp ps t) (hn : w.heap.size ≤ n) (i : Nat) : ApI ty w (wr.setCell ⟨n, i, none⟩ (.bool true)) hi n a cp ps (t.set i true) := by
  obtain ⟨h1, h2⟩ := h.bl.set i true
  exact ⟨h1, below_turned h.below h2 hn h.below.size, h.own.turned h2 h.size (.inr (Nat.le_refl _)), Nat.le_trans h.size h2.size, h.lt⟩

set_option maxHeartbeats 3200000 in
set_option maxRecDepth 100000 in
theorem specApartIn_any (rows cols long : Int) (w : World) :
    Calls Try.prog 36 #[.int .i64 rows, .int .i64 cols, .int .i64 long] w fun e w' => e = .returned (.int .i64 (apartI rows cols long)) ∧ Below w.heap.size w w' := by
  obtain ⟨i0, hi, hz0, hz1, hz2⟩ := info_parts infoBool
  have hmk : ∀ W : World, (Instr.makeSlice 73 (.int .i64 36) (.int .i64 36)).run Try.prog W = .ok (.slice (some ⟨W.heap.size, 0, none⟩) 36 36) (W.alloc (.cells (boolArr T0) 4)) := fun W => by
    have hr := run_make (P := Try.prog) W 73 4 i0 (.bool false) Try.underlying73 hi hz0 .i64 .i64 36 36 (by omega) (by omega) (by rw [hz2]; omega) (by omega)
    rw [← made36]
    simpa [hz1, Value.cells] using hr
  clear hi hz0 hz1 hz2
  go_enter Try.func36, Try.ntmps36
  go_wp2
  go_step3
  go_wp2_with fail
  refine (l12Board_any _ _ _ _).mono ?_
  rintro e w' ⟨rfl, rfl⟩
  rcases Bool.eq_false_or_eq_true (inB 1 6 rows && (inB 1 6 cols && inB 1 6 long)) with hb | hb
  rotate_left
  · rw [hb]
    have HF : Hid (apartI rows cols long = -1) := by unfold Hid apartI placesB; rw [hb]; rfl
    clear hb
    go_wp2
    rw [Exit.noGoto_ret]
    go_ret
    exact ⟨ret_int HF.out.symm, Below.refl _ _⟩
  rw [hb]
  have hpb : placesB rows cols long = true := hb
  have HI : Hid (apartI rows cols long = ((apartL long.toNat (placesI rows cols long)).2 : Int)) := by unfold Hid apartI; rw [hpb]; rfl
  have hl6 := (placesB_yes hpb).2.2
  clear hb hpb
  rename World => w
  obtain ⟨W, hW⟩ : ∃ W : World, W = w.alloc (.cells (boolArr T0) 4) := ⟨_, rfl⟩
  have hbW : Below w.heap.size w W := by rw [hW]; exact (Below.refl _ _).alloc (Nat.le_refl _) _
  have hsW : W.heap.size = w.heap.size + 1 := by rw [hW]; simp
  have hbl : BoolBlk W w.heap.size 4 T0 := by unfold BoolBlk; rw [hW]; exact heap_alloc_new _ _
  have HW := Lib.hid hW; have HB := Lib.hid hbW; have HBL := Lib.hid hbl
  clear hW hbW hbl
  go_wp2_with fail
  rw [← HW.out]
  refine (specPlacesOf_any rows cols long W).mono ?_
  rintro e w1 ⟨v1, rfl, o1, b1⟩
  have hlen := length_placesI rows cols long
  have HM : Hid (∀ x y z : Int, (x, y, z) ∈ placesI rows cols long → ∃ R C r c d : Nat, x = r ∧ y = c ∧ z = d ∧ Lies R C long.toNat r c d ∧ R ≤ 6 ∧ C ≤ 6) := fun x y z h => place_lies h
  generalize placesI rows cols long = ps at o1 HI hlen HM
  obtain ⟨L, rfl⟩ := Int.eq_ofNat_of_zero_le (a := long) (by omega)
  rw [Int.toNat_natCast] at HI HM
  have s1 := b1.size
  have HAP : Hid (∀ a cp, v1 = .slice a ps.length cp → ApI 4 w w1 w1.heap.size w.heap.size a cp ps (apartL L (ps.take 0)).1) := fun a cp e => by
    subst e
    exact ⟨HBL.out.below b1 (by omega), HB.out.trans (b1.mono (by omega)), o1.wide (by omega) (Nat.le_refl _), Nat.le_refl _, by omega⟩
  have HBD := Lib.hid (apartL_bd L ps)
  have HSN := Lib.hid (apartL_snoc L ps)
  obtain ⟨a, cp, rfl, l1, m1, -⟩ := o1.rd
  clear b1 o1
  go_wp2_with fail
  go_step3
  go_wp2_with fail
  go_loopg [8, 10] ps.length (fun g q i wr => ∃ k : Nat, k ≤ ps.length ∧ g = ps.length - k ∧ i = .int .i64 k ∧ q = .int .i64 ((apartL L (ps.take k)).2 : Nat) ∧ ApI 4 w wr w1.heap.size w.heap.size a cp ps (apartL L (ps.take k)).1)
  case atStart => exact ⟨0, Nat.zero_le _, rfl, rfl, rfl, HAP.out a cp rfl⟩
  case round =>
    obtain ⟨k, hk, rfl, rfl, rfl, hap⟩ := hrel
    by_cases hlt : k < ps.length
    · have hrd := hap.own.rd
      obtain ⟨a', cp', e1, -, -, hr0⟩ := hrd
      injection e1 with e1 e2 e3
      subst e1 e3
      obtain ⟨g0, off0, x, y, z, rfl, hg0, ⟨c0, c1, c2⟩, HZ⟩ := rdP_at hr0 k hlt
      have hmem : (x, y, z) ∈ ps := by rw [HZ.out]; simp [List.getD, List.getElem?_eq_getElem hlt]
      obtain ⟨R, C, r, c, d, rfl, rfl, rfl, hlies, hR6, hC6⟩ := HM.out x y z hmem
      have hL1 : 1 ≤ L ∧ L ≤ 6 := by omega
      have hrc : r ≤ 5 ∧ c ≤ 5 ∧ (d = 0 ∨ d = 1) := by rcases hlies with h | h <;> omega
      have hfl := fields_lies hlies hR6 hC6 hL1
      have hbdk := HBD.out k hk
      have HSTEP : Hid (apartL L (ps.take (k + 1)) = stepA L (apartL L (ps.take k)) ((r : Int), (c : Int), (d : Int))) := by unfold Hid; rw [HSN.out k hlt, ← HZ.out]
      have HFI := Lib.hid (fun k hk => fIdx_lt (k := k) hlies hk hR6 hC6)
      have HBD2 := Lib.hid (HBD.out (k + 1) (by omega))
      obtain ⟨t, ht⟩ : ∃ t, t = (apartL L (ps.take k)).1 := ⟨_, rfl⟩
      obtain ⟨q, hq⟩ : ∃ q, q = (apartL L (ps.take k)).2 := ⟨_, rfl⟩
      have HTQ : Hid (apartL L (ps.take k) = (t, q)) := by rw [ht, hq]; rfl
      rw [← ht] at hap hbdk
      rw [← hq] at hbdk ⊢
      obtain ⟨htl, hql⟩ := hbdk
      have HTL := Lib.hid htl
      have HAP1 := Lib.hid hap
      have hlo : w.heap.size + 1 ≤ wr.heap.size := by have := hap.lt; have := hap.size; omega
      clear hap hmem hlies hr0 ht hq htl
      go_wp2_with fail
      refine (specFieldsOf_any (d := (d : Int)) r c L _ (by omega) (by omega)).mono ?_
      rintro e w3 ⟨v3, us3, rfl, o3, b3⟩
      rw [hfl] at o3
      have HAP2 := Lib.hid (HAP1.out.on b3)
      obtain ⟨a4, c4, rfl, l4, m4, -⟩ := o3.rd
      rw [length_fieldsL] at l4 o3 ⊢
      have HO3 := Lib.hid o3
      clear b3 o3 hfl c0 c1 c2 HAP1
      go_wp2_with fail
      go_loopg [12] L (fun g2 i wr2 => ∃ j : Nat, j ≤ L ∧ g2 = L - j ∧ i = .int .i64 j ∧ Hid (freeN t r c d j = true) ∧ ∃ m, wr2 = w3.drewN m)
      case atStart => exact ⟨0, Nat.zero_le _, rfl, rfl, rfl, 0, rfl⟩
      case round =>
        obtain ⟨j, hj, rfl, rfl, hfr, m, rfl⟩ := hrel
        by_cases hjl : j < L
        · obtain ⟨g5, off5, b5, o5, cb5, rfl, y0, y1, y2⟩ := fields_cell (HO3.out.rd) hrc.2.2 hjl
          obtain ⟨hf36, hr', hc'⟩ := HFI.out j hjl
          have hcell := HAP2.out.bl.cell (fIdx r c d j) (by rw [HTL.out]; exact hf36)
          have HFS := Lib.hid (freeN_succ t r c d j)
          have HFB : Hid (t.getD (fIdx r c d j) false = true → freeN t r c d L = false) := fun h => freeN_bad hjl h
          obtain ⟨bb, hbb⟩ : ∃ b, b = t.getD (fIdx r c d j) false := ⟨_, rfl⟩
          rw [← hbb] at hcell
          have HBB := Lib.hid hbb
          unfold fIdx at hcell hf36
          generalize r + j * d = r' at *
          generalize c + j * (1 - d) = c' at *
          clear hbb
          rcases bb with _ | _
          · have HF2 : Hid (freeN t r c d (j + 1) = true) := by unfold Hid; rw [HFS.out, hfr.out, ← HBB.out]; rfl
            go_wp2
            go_quiet (fail)
            go_wp2
            go_roundg (L - (j + 1))
            case measure => omega
            case rel => exact ⟨j + 1, by omega, rfl, by go_num, HF2, _, rfl⟩
          · have HF2 : Hid (apartL L (ps.take (k + 1)) = (t, q)) := by
              unfold Hid
              rw [HSTEP.out, HTQ.out]
              unfold stepA
              rw [if_neg (by simpa using HFB.out HBB.out.symm)]
            go_wp2
            go_quiet (fail)
            go_wp2
            go_roundg (ps.length - (k + 1))
            case measure => omega
            case rel => exact ⟨k + 1, by omega, rfl, by go_num, by rw [HF2.out], by rw [HF2.out]; exact HAP2.out.drew _⟩
        · have hj' : j = L := by omega
          subst hj'
          have HF2 : Hid (apartL j (ps.take (k + 1)) = (takeN t r c d j, q + 1)) := by
            unfold Hid
            rw [HSTEP.out, HTQ.out]
            unfold stepA
            rw [if_pos (by simpa using hfr.out)]
            simp
          have HO4 := Lib.hid (HO3.out.drewN m)
          have HAP3 := Lib.hid (HAP2.out.drew m)
          have hs4 : w3.heap.size ≤ (w3.drewN m).heap.size := Nat.le_refl _
          generalize w3.drewN m = w4 at *
          clear HAP2 HO3 HTQ HSTEP
          go_wp2_with fail
          go_loopg [13] j (fun g3 i wr3 => ∃ n : Nat, n ≤ j ∧ g3 = j - n ∧ i = .int .i64 n ∧ ApI 4 w wr3 w1.heap.size w.heap.size (some ⟨g0, off0, none⟩) cp ps (takeN t r c d n) ∧ OwnR wr3 wr.heap.size w3.heap.size (.slice a4 j c4) us3 (fieldsL (r : Int) c d j) ∧ w3.heap.size ≤ wr3.heap.size)
          case atStart => exact ⟨0, Nat.zero_le _, rfl, rfl, HAP3.out, HO4.out, hs4⟩
          case round =>
            clear HAP3 HO4 hs4
            obtain ⟨n, hn, rfl, rfl, hap, ho, hs5⟩ := hrel
            by_cases hnl : n < j
            · obtain ⟨g5, off5, b5, o5, cb5, rfl, y0, y1, y2⟩ := fields_cell (ho.rd) hrc.2.2 hnl
              obtain ⟨hf36, hr', hc'⟩ := HFI.out n hnl
              have hcell := hap.bl.cell (fIdx r c d n) (by rw [length_takeN, HTL.out]; exact hf36)
              have hfroz := hap.bl.frozen (fIdx r c d n)
              have HAN := Lib.hid (hap.set (Nat.le_refl _) (fIdx r c d n))
              have HON := Lib.hid (ho.turned (hap.bl.set (fIdx r c d n) true).2 hs5 (.inr hlo))
              rw [← takeN_succ] at HAN
              clear hap ho
              unfold fIdx at hcell hf36 hfroz HAN HON
              generalize r + n * d = r' at *
              generalize c + n * (1 - d) = c' at *
              generalize (takeN t r c d n).getD (r' * 6 + c') false = bo at *
              go_wp2
              go_region
              go_wp2
              go_roundg (j - (n + 1))
              case measure => omega
              case rel => exact ⟨n + 1, by omega, rfl, by go_num, HAN.out.drew 1, HON.out.keep fun _ _ _ => rfl, by simpa using hs5⟩
            · have hn' : n = j := by omega
              subst hn'
              have HAN := Lib.hid hap
              clear hap ho
              go_wp2
              go_roundg (ps.length - (k + 1))
              case measure => omega
              case rel => exact ⟨k + 1, by omega, rfl, by go_num, by rw [HF2.out]; go_num, by rw [HF2.out]; exact HAN.out⟩
    · have hk' : k = ps.length := by omega
      subst hk'
      rw [List.take_length] at hap ⊢
      go_wp2
      try rw [Exit.noGoto_ret]
      go_ret
      exact ⟨ret_int HI.out.symm, hap.below⟩
end Go.Proofs.Ytahamfgkcnepgaa

/- DiagonalShots, of the program and of the reference. -/
import Derived.Test.YtahamfgkcnepgaaFields
import Derived.Test.YtahamfgkcnepgaaShotsIn
namespace Go.Proofs.Ytahamfgkcnepgaa
open Go.RowKit

def diagX (long rem : Int) (r c : Nat) : Int := if ((r : Int) + (c : Int)) % long = rem then 1 else 0
def diagRow (long rem : Int) (r n : Nat) : List Int := (List.range n).map fun c => diagX long rem r c
def diagL (long rem : Int) (cols n : Nat) : List (List Int) := (List.range n).map fun r => diagRow long rem r cols
def diagB (rows cols long rem : Int) : Bool := inB 1 6 rows && (inB 1 6 cols && (inB 1 6 long && inB 0 (long - 1) rem))
def diagI (rows cols long rem : Int) : List (List Int) := if diagB rows cols long rem then diagL long rem cols.toNat rows.toNat else []

theorem length_diagRow (long rem : Int) (r n : Nat) : (diagRow long rem r n).length = n := by simp [diagRow]
theorem diagRow_succ (long rem : Int) (r n : Nat) : diagRow long rem r (n + 1) = diagRow long rem r n ++ [diagX long rem r n] := by simp [diagRow, List.range_succ]
theorem length_diagL (long rem : Int) (c n : Nat) : (diagL long rem c n).length = n := by simp [diagL]
theorem diagL_succ (long rem : Int) (c n : Nat) : diagL long rem c (n + 1) = diagL long rem c n ++ [diagRow long rem n c] := by simp [diagL, List.range_succ]

set_option maxRecDepth 100000 in
theorem l12Board_any (rows cols long : Int) (w : World) :
    Calls Try.prog 70 #[.int .i64 rows, .int .i64 cols, .int .i64 long] w fun e w' => e = .returned (.bool (inB 1 6 rows && (inB 1 6 cols && inB 1 6 long))) ∧ w' = w := by
  go_enter Try.func70, Try.ntmps70
  go_wp2_with fail
  refine (l1In_any _ _ _ _).mono ?_
  rintro e w' ⟨rfl, rfl⟩
  rcases Bool.eq_false_or_eq_true (inB 1 6 rows) with hb | hb
  · rw [hb]
    have HB := Lib.hid hb
    clear hb
    go_wp2_with fail
    refine (l1In_any _ _ _ _).mono ?_
    rintro e w' ⟨rfl, rfl⟩
    rcases Bool.eq_false_or_eq_true (inB 1 6 cols) with hc | hc
    · rw [hc]
      have HC := Lib.hid hc
      clear hc
      go_wp2_with fail
      refine (l1In_any _ _ _ _).mono ?_
      rintro e w' ⟨rfl, rfl⟩
      obtain ⟨x, hx⟩ : ∃ x, x = inB 1 6 long := ⟨_, rfl⟩
      rw [← hx]
      have HX := Lib.hid hx
      clear hx
      go_wp2
      go_ret
      exact ⟨ret_bool (by rw [HB.out, HC.out, HX.out]; simp), rfl⟩
    · rw [hc]
      have HC := Lib.hid hc
      clear hc
      go_wp2
      go_ret
      exact ⟨ret_bool (by rw [HB.out, HC.out]; simp), rfl⟩
  · rw [hb]
    have HB := Lib.hid hb
    clear hb
    go_wp2
    go_ret
    exact ⟨ret_bool (by rw [HB.out]; simp), rfl⟩

theorem diagB_yes {rows cols long rem : Int} (h : diagB rows cols long rem = true) : (1 ≤ rows ∧ rows ≤ 6) ∧ (1 ≤ cols ∧ cols ≤ 6) ∧ (1 ≤ long ∧ long ≤ 6) ∧ (0 ≤ rem ∧ rem ≤ long - 1) := by
  simp only [diagB, inB, Bool.and_eq_true, decide_eq_true_eq] at h
  exact h

/-- Behind the append of a row that was made in [wr, ..) to rows of the call's own. -/
theorem rows_app2 {lo : Nat} {w wr wi w' : World} {v v' u : Value} {us : List Value} {zss : List (List Int)} {zs : List Int} {o : Obj} (h : OwnR wr lo wr.heap.size v us zss) (hb : Below lo w wr) (hlo : lo ≤ wr.heap.size)
    (hbi : Below wr.heap.size wr wi) (hu : Own wi wr.heap.size wi.heap.size u zs)
    (hown : w'.ownsRow lo 49 1 v' (zss.length + 1) (us ++ [u])) (hg : (wi.alloc o).grownBy w' v.ownBlock) :
    OwnR w' lo w'.heap.size v' (us ++ [u]) (zss ++ [zs]) ∧ Below lo w w' ∧ lo ≤ w'.heap.size := by
  have hbW : Below wr.heap.size wr (wi.alloc o) := hbi.trans (((Below.refl _ _).alloc (Nat.le_refl _) o).mono hbi.size)
  have hu2 : Own (wi.alloc o) wr.heap.size wi.heap.size u zs := hu.keep fun g _ hg => Below.heap_alloc _ _ _ hg
  obtain ⟨ht1, ht2⟩ := own_tight hu2
  have hs := hg.size
  have hs2 := hbW.size
  refine ⟨h.snoc (Nat.le_refl _) hbW ht1 (fun k hk => ⟨(ht2 k hk).1, ?_⟩) hown hg hlo rfl, (hb.trans (hbW.mono (by omega))).grown hg (by omega) fun k hk => ?_, by omega⟩
  · have := (ht2 k hk).2
    simp only [World.size_alloc]; omega
  · have := (h.outer.lt k hk).1; omega

set_option maxHeartbeats 1600000 in
set_option maxRecDepth 100000 in
theorem specDiagonalShots_any (rows cols long rem : Int) (w : World) :
    Calls Try.prog 34 #[.int .i64 rows, .int .i64 cols, .int .i64 long, .int .i64 rem] w fun e w' => ∃ v us, e = .returned v ∧ OwnR w' w.heap.size w'.heap.size v us (diagI rows cols long rem) ∧ Below w.heap.size w w' := by
  obtain ⟨i0, hi, hz0, hz1, hz2⟩ := info_parts infoRow
  obtain ⟨j0, hj, hy0, hy1, hy2⟩ := info_parts infoInt
  obtain ⟨W, hW⟩ : ∃ W : World, W = w.alloc (.cells #[] 49) := ⟨_, rfl⟩
  have hbW : Below w.heap.size w W := by rw [hW]; exact (Below.refl _ _).alloc (Nat.le_refl _) _
  have hsW : W.heap.size = w.heap.size + 1 := by rw [hW]; simp
  have o1 : OwnR W w.heap.size (w.heap.size + 1) (.slice (some ⟨w.heap.size, 0, none⟩) 0 0) [] [] := by rw [hW]; exact ownR_lit w
  have HW := Lib.hid hW; have HO := Lib.hid o1; have HB := Lib.hid hbW
  have hbad : diagB rows cols long rem = false → OwnR W w.heap.size W.heap.size (.slice (some ⟨w.heap.size, 0, none⟩) 0 0) [] (diagI rows cols long rem) := fun h => by
    unfold diagI; rw [h, if_neg (by simp), hsW]; exact HO.out
  have HBAD := Lib.hid hbad
  clear hW o1 hbW hbad
  go_enter Try.func34, Try.ntmps34
  go_wp2_with fail
  rw [← HW.out]
  refine (l12Board_any _ _ _ _).mono ?_
  rintro e w' ⟨rfl, rfl⟩
  rcases Bool.eq_false_or_eq_true (inB 1 6 rows && (inB 1 6 cols && inB 1 6 long)) with hb | hb
  rotate_left
  · rw [hb]
    have HF : Hid (diagB rows cols long rem = false) := by
      unfold Hid diagB
      rw [← Bool.and_assoc, ← Bool.and_assoc, Bool.and_assoc (inB 1 6 rows), hb]; rfl
    clear hb
    go_wp2
    go_ret
    exact ⟨_, _, rfl, HBAD.out HF.out, HB.out⟩
  rw [hb]
  have hlong : 1 ≤ long ∧ long ≤ 6 := by
    simp only [inB, Bool.and_eq_true, decide_eq_true_eq] at hb; exact hb.2.2
  go_wp2_with fail
  refine (l1In_any _ _ _ _).mono ?_
  rintro e w' ⟨rfl, rfl⟩
  rcases Bool.eq_false_or_eq_true (inB 0 (long - 1) rem) with hm | hm
  rotate_left
  · rw [hm]
    have HF : Hid (diagB rows cols long rem = false) := by
      unfold Hid diagB
      rw [hm]; simp
    clear hb hm
    go_wp2
    go_ret
    exact ⟨_, _, rfl, HBAD.out HF.out, HB.out⟩
  rw [hm]
  have hall : diagB rows cols long rem = true := by
    unfold diagB
    rw [← Bool.and_assoc, ← Bool.and_assoc, Bool.and_assoc (inB 1 6 rows), hb, hm]; rfl
  obtain ⟨hr, hc, -, hrem⟩ := diagB_yes hall
  obtain ⟨R, rfl⟩ := Int.eq_ofNat_of_zero_le (a := rows) (by omega)
  obtain ⟨C, rfl⟩ := Int.eq_ofNat_of_zero_le (a := cols) (by omega)
  have HI : Hid (diagI R C long rem = diagL long rem C R) := by unfold Hid diagI; rw [if_pos hall]; rfl
  clear hall hb hm HBAD
  go_wp2_with fail
  go_loopw [9, 10] (fun v i wr => ∃ (k : Nat) (us : List Value), k ≤ R ∧ i = .int .i64 k ∧ OwnR wr w.heap.size wr.heap.size v us (diagL long rem C k) ∧ Below w.heap.size w wr ∧ w.heap.size ≤ wr.heap.size) (fun _ i _ => R - (intOf i).toNat)
  case atStart => exact ⟨0, [], Nat.zero_le _, rfl, HO.out.wide (Nat.le_refl _) (by omega), HB.out, by omega⟩
  case round =>
    obtain ⟨k, us, hk, rfl, hro, hbr, hsr⟩ := hrel
    rename World => wo
    by_cases hlt : k < R
    · go_wp2_with fail
      go_loopw [11, 12] (fun v i wr => ∃ j : Nat, j ≤ C ∧ i = .int .i64 j ∧ wr.ownsRow wo.heap.size 3 1 v (diagRow long rem k j).length ((diagRow long rem k j).map (Value.int .i64)) ∧ Below wo.heap.size wo wr ∧ wo.heap.size ≤ wr.heap.size)
        (fun _ i _ => C - (intOf i).toNat)
      case atStart => exact ⟨0, by omega, rfl, World.ownsRow_lit wo #[] 0 (Nat.le_refl _) (by simp) (by simp), (Below.refl _ _).alloc (Nat.le_refl _) _, by simp⟩
      case round =>
        obtain ⟨j, hj2, rfl, hown, hb, hsz⟩ := hrel
        by_cases hjl : j < C
        · have hlen := length_diagRow long rem k j
          by_cases hx : ((k : Int) + (j : Int)) % long = rem
          · have hq : (((k : Int) + (j : Int)) % long == rem) = true := by simpa using hx
            have HX : Hid (diagX long rem k j = 1) := by unfold Hid diagX; rw [if_pos hx]
            clear hx
            go_wp2_with (first | (at_builtin; go_loud (refine wpList_append_own _ rfl _ _ 49 rfl wo.heap.size 3 j0 (.int .i64 0) 1 8 Try.underlying49 hj hy0 hy1 hy2 rfl (by decide) _ _ _ rfl (hown.alloc _) ⟨wr.heap.size, 0, none⟩ 1 1 [.int .i64 1] rfl rfl (one_new _ _ _) ?c2 ?c3 ?c4 ?c5 ?_)) | go_in)
            case c2 => exact one_cell _ _
            case c3 => unfold maxLen; omega
            case c4 => omega
            case c5 => simp; omega
            intro v' w1 hown' hgr _
            have hrel := app_rel hown hb (Nat.le_refl _) hsz (by rw [hlen]; exact hown') hgr
            rw [← HX.out, ← diagRow_succ] at hrel
            have HR := Lib.hid hrel
            clear hrel hown hown' hgr hb hz0 hz1 hz2 hi hj hy0 hy1 hy2 hro hbr
            go_wp2
            go_roundw
            case rel => exact ⟨j + 1, by omega, by go_num, HR.out.1, HR.out.2.1, HR.out.2.2⟩
            case measure => simp [intOf]; omega
          · have hq : (((k : Int) + (j : Int)) % long == rem) = false := by simpa using hx
            have HX : Hid (diagX long rem k j = 0) := by unfold Hid diagX; rw [if_neg hx]
            clear hx
            go_wp2_with (first | (at_builtin; go_loud (refine wpList_append_own _ rfl _ _ 49 rfl wo.heap.size 3 j0 (.int .i64 0) 1 8 Try.underlying49 hj hy0 hy1 hy2 rfl (by decide) _ _ _ rfl (hown.alloc _) ⟨wr.heap.size, 0, none⟩ 1 1 [.int .i64 0] rfl rfl (one_new _ _ _) ?c2 ?c3 ?c4 ?c5 ?_)) | go_in)
            case c2 => exact one_cell _ _
            case c3 => unfold maxLen; omega
            case c4 => omega
            case c5 => simp; omega
            intro v' w1 hown' hgr _
            have hrel := app_rel hown hb (Nat.le_refl _) hsz (by rw [hlen]; exact hown') hgr
            rw [← HX.out, ← diagRow_succ] at hrel
            have HR := Lib.hid hrel
            clear hrel hown hown' hgr hb hz0 hz1 hz2 hi hj hy0 hy1 hy2 hro hbr
            go_wp2
            go_roundw
            case rel => exact ⟨j + 1, by omega, by go_num, HR.out.1, HR.out.2.1, HR.out.2.2⟩
            case measure => simp [intOf]; omega
        · have hj' : j = C := by omega
          subst hj'
          have hu : Own wr wo.heap.size wr.heap.size _ (diagRow long rem k j) := Own.new hown (Nat.le_refl _)
          obtain ⟨A3, n3, rfl⟩ := own_sl hu
          have hri := hro.below hb (Nat.le_refl _)
          have hll := length_diagL long rem j k
          have HU := Lib.hid hu; have HRO := Lib.hid hro; have HBI := Lib.hid hb
          clear hown hu hb
          go_wp2_with (first | (at_builtin; go_loud (refine wpList_append_own _ rfl _ _ 24 rfl w.heap.size 49 i0 (.slice none 0 0) 1 24 Try.underlying24 hi hz0 hz1 hz2 rfl (by decide) _ _ _ rfl (hri.outer.alloc _) ⟨wr.heap.size, 0, none⟩ 1 1 [.slice A3 (diagRow long rem k j).length n3] rfl rfl (one_new _ _ _) (one_cellV _ rfl) ?c2 ?c3 ?c4 ?_)) | go_in)
          case c2 => unfold maxLen; omega
          case c3 => omega
          case c4 => simp; omega
          intro v' w1 hown' hgr _
          have hrel := rows_app2 HRO.out hbr hsr HBI.out HU.out (by rw [hll]; exact hown') hgr
          rw [← diagL_succ] at hrel
          have HR := Lib.hid hrel
          clear hrel hown' hgr hz0 hz1 hz2 hi hj hy0 hy1 hy2 hro hbr hri
          go_wp2
          go_roundw
          case rel => exact ⟨k + 1, _, by omega, by go_num, HR.out.1, HR.out.2.1, HR.out.2.2⟩
          case measure => simp [intOf]; omega
    · have hk' : k = R := by omega
      subst hk'
      have HR := Lib.hid hro; have HE := Lib.hid hbr
      clear hro hbr
      go_wp2
      go_ret
      exact ⟨_, _, rfl, by rw [HI.out]; exact HR.out, HE.out⟩

theorem updRow_step (zs : List Int) (j : Nat) (x : Int) (n : Nat) (h : j < n) (hl : zs.length = j) : (zs ++ List.replicate (n - j) 0).set j x = (zs ++ [x]) ++ List.replicate (n - (j + 1)) 0 := by
  have er : List.replicate (n - j) (0 : Int) = 0 :: List.replicate (n - (j + 1)) 0 := by
    rw [show n - j = n - (j + 1) + 1 from by omega, List.replicate_succ]
  rw [List.set_append_right _ _ (by omega), hl, Nat.sub_self, er]
  simp only [List.set_cons_zero, List.append_assoc, List.singleton_append]
theorem updRows_step (zss : List (List Int)) (k n : Nat) (zs : List Int) (h : k < n) (hl : zss.length = k) : (zss ++ List.replicate (n - k) []).set k zs = (zss ++ [zs]) ++ List.replicate (n - (k + 1)) [] := by
  have er : List.replicate (n - k) ([] : List Int) = [] :: List.replicate (n - (k + 1)) [] := by
    rw [show n - k = n - (k + 1) + 1 from by omega, List.replicate_succ]
  rw [List.set_append_right _ _ (by omega), hl, Nat.sub_self, er]
  simp only [List.set_cons_zero, List.append_assoc, List.singleton_append]

/-- Row k, known by its block. -/
structure RowAt (w : World) (lo hi g k b C : Nat) (n : Nat) (us : List Value) (zss : List (List Int)) (zs : List Int) : Prop where
  own : OwnR w lo hi (.slice (some ⟨g, 0, none⟩) n n) us (zss.set k zs)
  len : zss.length = n
  lt : k < n
  row : us[k]? = some (.slice (some ⟨b, 0, none⟩) C C)
  zl : zs.length = C
  hh : hi ≤ w.heap.size

theorem RowAt.cells {w : World} {lo hi g k b C n : Nat} {us : List Value} {zss : List (List Int)} {zs : List Int} (h : RowAt w lo hi g k b C n us zss zs) :
    w.cell? ⟨g, k, none⟩ = some (.slice (some ⟨b, 0, none⟩) C C) ∧ (∀ j, j < C → w.cell? ⟨b, j, none⟩ = some (.int .i64 (zs.getD j 0))) ∧ (∀ j, w.frozen? ⟨b, j, none⟩ = false) := by
  obtain ⟨ho, hl, hlt, hr, hz, hh⟩ := h
  have hout := ho.outer
  rw [List.length_set, hl] at hout
  have hc := hout.cellAt k (by omega)
  rw [hr] at hc
  have hu : us.getD k nilV = .slice (some ⟨b, 0, none⟩) C C := by simp [List.getD, hr]
  have hin := (ho.inner k (by rw [List.length_set, hl]; exact hlt)).1
  have hzz : (zss.set k zs).getD k [] = zs := by simp [List.getD, hl, hlt]
  rw [hu, hzz] at hin
  have hrd := hin.rd
  have hin2 := hin.1
  rw [hz] at hin2
  refine ⟨hc, fun j hj => ?_, fun j => hin2.frozenAt j⟩
  obtain ⟨a', c', e, q1, q2, q3⟩ := hrd
  injection e with e1 e2 e3
  obtain ⟨g', off', e4, q4, q5⟩ := q3 (by omega)
  rw [e4] at e1
  injection e1 with e1
  injection e1 with e5 e6
  subst e5 e6
  have := q5 j (by omega)
  simpa using this

theorem RowAt.put {w : World} {lo hi g k b C n j : Nat} {us : List Value} {zss : List (List Int)} {zs : List Int} (h : RowAt w lo hi g k b C n us zss zs) (x : Int) :
    RowAt (w.setCell ⟨b, j, none⟩ (.int .i64 x)) lo hi g k b C n us zss (zs.set j x) ∧ Turned lo hi w (w.setCell ⟨b, j, none⟩ (.int .i64 x)) := by
  obtain ⟨ho, hl, hlt, hr, hz, hh⟩ := h
  have hu : us.getD k nilV = .slice (some ⟨b, 0, none⟩) C C := by simp [List.getD, hr]
  have hk2 : k < (zss.set k zs).length := by rw [List.length_set, hl]; exact hlt
  have hin := (ho.inner k hk2).1
  have hzz : (zss.set k zs).getD k [] = zs := by simp [List.getD, hl, hlt]
  rw [hu, hzz] at hin
  have hrw : rowLo (.slice (some ⟨b, 0, none⟩) C C) = b ∧ rowHi (.slice (some ⟨b, 0, none⟩) C C) = b + 1 := row_blk rfl
  rw [hrw.1, hrw.2] at hin
  have hin2 := hin.1
  rw [hz] at hin2
  have hst := hin2.stored j (.int .i64 x)
  have hto : Own (w.setCell ⟨b, j, none⟩ (.int .i64 x)) b (b + 1) (.slice (some ⟨b, 0, none⟩) C C) (zs.set j x) := by
    refine ⟨?_, hin.2⟩
    rw [List.length_set, hz, List.map_set]; exact hst.1
  have htt : Turned b (b + 1) w (w.setCell ⟨b, j, none⟩ (.int .i64 x)) := ⟨rfl, rfl, rfl, by simp, fun q hq hne => heap_setCell_other w ⟨b, j, none⟩ q _ (by show q ≠ b; omega)⟩
  obtain ⟨r1, r2⟩ := ho.rowTurned hh hk2 (by rw [hu, hrw.1, hrw.2]; exact hto) (by rw [hu, hrw.1, hrw.2]; exact htt)
  rw [List.set_set] at r1
  exact ⟨⟨r1, hl, hlt, hr, by rw [List.length_set]; exact hz, by simpa using hh⟩, r2⟩

set_option maxHeartbeats 1600000 in
set_option maxRecDepth 100000 in
theorem implDiagonalShots_any (rows cols long rem : Int) (w : World) :
    Calls Try.prog 35 #[.int .i64 rows, .int .i64 cols, .int .i64 long, .int .i64 rem] w fun e w' => ∃ v us, e = .returned v ∧ OwnR w' w.heap.size w'.heap.size v us (diagI rows cols long rem) ∧ Below w.heap.size w w' := by
  obtain ⟨i0, hi, hz0, hz1, hz2⟩ := info_parts infoRow
  obtain ⟨j0, hj, hy0, hy1, hy2⟩ := info_parts infoInt
  have hbad : diagB rows cols long rem = false → OwnR w w.heap.size w.heap.size (.slice none 0 0) [] (diagI rows cols long rem) := fun h => by
    unfold diagI; rw [h, if_neg (by simp)]; exact ownR_nil _ _ _
  have HBAD := Lib.hid hbad
  clear hbad
  go_enter Try.func35, Try.ntmps35
  go_wp2_with fail
  refine (isBoard_any _ _ _).mono ?_
  rintro e w' ⟨rfl, rfl⟩
  rcases Bool.eq_false_or_eq_true (inB 1 6 rows && inB 1 6 cols) with hb | hb
  rotate_left
  · rw [hb]
    have HF : Hid (diagB rows cols long rem = false) := by
      unfold Hid diagB
      rw [← Bool.and_assoc, hb]; rfl
    clear hb
    go_wp2
    go_ret
    exact ⟨_, _, rfl, HBAD.out HF.out, Below.refl _ _⟩
  rw [hb]
  go_wp2_with fail
  refine (in_any _ _ _ _).mono ?_
  rintro e w' ⟨rfl, rfl⟩
  rcases Bool.eq_false_or_eq_true (inB 1 6 long) with hlg | hlg
  rotate_left
  · rw [hlg]
    have HF : Hid (diagB rows cols long rem = false) := by
      unfold Hid diagB
      rw [hlg]; simp
    clear hb hlg
    go_wp2
    go_ret
    exact ⟨_, _, rfl, HBAD.out HF.out, Below.refl _ _⟩
  rw [hlg]
  have hlong := inB_in hlg
  go_wp2_with fail
  refine (in_any _ _ _ _).mono ?_
  rintro e w' ⟨rfl, rfl⟩
  rcases Bool.eq_false_or_eq_true (inB 0 (long - 1) rem) with hm | hm
  rotate_left
  · rw [hm]
    have HF : Hid (diagB rows cols long rem = false) := by
      unfold Hid diagB
      rw [hm]; simp
    clear hb hm hlg
    go_wp2
    go_ret
    exact ⟨_, _, rfl, HBAD.out HF.out, Below.refl _ _⟩
  rw [hm]
  have hall : diagB rows cols long rem = true := by
    unfold diagB
    rw [← Bool.and_assoc, hb, hlg, hm]; rfl
  obtain ⟨hr, hc, -, hrem⟩ := diagB_yes hall
  obtain ⟨R, rfl⟩ := Int.eq_ofNat_of_zero_le (a := rows) (by omega)
  obtain ⟨C, rfl⟩ := Int.eq_ofNat_of_zero_le (a := cols) (by omega)
  have HI : Hid (diagI R C long rem = diagL long rem C R) := by unfold Hid diagI; rw [if_pos hall]; rfl
  clear hall hb hm hlg HBAD
  go_wp2_with (at_make; refine wpList_make_full _ rfl _ _ 24 rfl w'.heap.size 49 i0 (.slice none 0 0) 1 Try.underlying24 hi hz0 hz1 _ _ _ _ R rfl rfl rfl rfl ?c1 ?c2 ?c3 ?_)
  case c1 => rw [hz2]; omega
  case c2 => unfold maxLen; omega
  case c3 => exact Nat.le_refl _
  intro w1 hown hgr
  have e0 : (madeCells #[Value.slice none 0 0] R).toList = List.replicate R nilV := (toList_madeCells_one _ _).trans (by simp [nilV])
  rw [e0] at hown
  have hb1 : Below w'.heap.size w' w1 := (Below.refl _ _).grown hgr (Nat.le_refl _) (fun k hk => by cases hk)
  have hs1 : w'.heap.size < w1.heap.size := (hown.lt _ rfl).2
  have hst := ownR_made hown
  have E0 := Lib.hid e0
  clear e0 hz0 hz1 hz2 hi hgr hown
  go_wp2
  go_loopw [32] (fun i wr => ∃ (k : Nat) (us : List Value), k ≤ R ∧ i = .int .i64 k ∧ OwnR wr w'.heap.size wr.heap.size (.slice (some ⟨w'.heap.size, 0, none⟩) R R) us (diagL long rem C k ++ List.replicate (R - k) []) ∧ Below w'.heap.size w' wr ∧ w'.heap.size < wr.heap.size) (fun i _ => R - (intOf i).toNat)
  case atStart => exact ⟨0, _, Nat.zero_le _, rfl, by simpa [diagL] using hst, hb1, hs1⟩
  case round =>
    clear hst hb1 hs1
    obtain ⟨k, us, hk, rfl, hro, hbr, hsr⟩ := hrel
    rename World => wo
    by_cases hlt : k < R
    · have hll := length_diagL long rem C k
      have hzl : (diagL long rem C k ++ List.replicate (R - k) ([] : List Int)).length = R := by rw [List.length_append, hll, List.length_replicate]; omega
      have hstep := fun zs => updRows_step (diagL long rem C k) k R zs hlt hll
      generalize hzz : diagL long rem C k ++ List.replicate (R - k) ([] : List Int) = zz at hro hzl hstep
      have HRO := Lib.hid hro
      have hul := hro.len
      have hout := hro.outer
      rw [hzl] at hout
      go_wp2_with (at_make; refine wpList_make_full _ rfl _ _ 49 rfl wo.heap.size 3 j0 (.int .i64 0) 1 Try.underlying49 hj hy0 hy1 _ _ _ _ C rfl rfl rfl rfl ?c1 ?c2 ?c3 ?_)
      case c1 => rw [hy2]; omega
      case c2 => unfold maxLen; omega
      case c3 => exact Nat.le_refl _
      intro w2 hown2 hgr2
      have e1 : (madeCells #[Value.int .i64 0] C).toList = (List.replicate C (0 : Int)).map (Value.int .i64) := (toList_madeCells_one _ _).trans (by simp)
      rw [e1] at hown2
      have b2 : Below wo.heap.size wo w2 := (Below.refl _ _).grown hgr2 (Nat.le_refl _) (fun k hk => by cases hk)
      have hu2 : Own w2 wo.heap.size w2.heap.size (.slice (some ⟨wo.heap.size, 0, none⟩) C C) (List.replicate C 0) := Own.new (by simpa using hown2) (Nat.le_refl _)
      obtain ⟨ot, otb⟩ := own_tight hu2
      have hro' : OwnR wo w'.heap.size wo.heap.size (.slice (some ⟨w'.heap.size, 0, none⟩) zz.length R) us zz := by rw [hzl]; exact hro
      have hput := hro'.put (j := k) (Nat.le_refl _) b2 ot otb (by omega) rfl
      rw [hzl] at hput
      have hout2 := outer_keep hout (fun g hg => b2.block g (by have := hout.lt g hg; omega))
      obtain ⟨x, hcx⟩ := own_cell hout2 k hlt
      have hfx := hout2.frozenAt k
      have hpt : RowAt (w2.setCell ⟨w'.heap.size, k, none⟩ (.slice (some ⟨wo.heap.size, 0, none⟩) C C)) w'.heap.size w2.heap.size w'.heap.size k wo.heap.size C R (us.set k (.slice (some ⟨wo.heap.size, 0, none⟩) C C)) zz (List.replicate C 0) :=
        ⟨hput.1, hzl, hlt, by rw [List.getElem?_set_self (by omega)], by simp, by simp⟩
      have hbp : Below w'.heap.size w' (w2.setCell ⟨w'.heap.size, k, none⟩ (.slice (some ⟨wo.heap.size, 0, none⟩) C C)) := below_turned hbr hput.2 (Nat.le_refl _) hbr.size
      have s2 := b2.size
      have HP := Lib.hid hpt; have HBP := Lib.hid hbp; have E1 := Lib.hid e1; have HSTEP := Lib.hid hstep
      clear hput hro' hu2 ot otb b2 hgr2 hown2 hro hout hout2 hul e1 hstep hzz hbr hll hzl hpt hbp
      go_wp2
      go_loopw [45] (fun i wr => ∃ j : Nat, j ≤ C ∧ i = .int .i64 j ∧ RowAt wr w'.heap.size w2.heap.size w'.heap.size k wo.heap.size C R (us.set k (.slice (some ⟨wo.heap.size, 0, none⟩) C C)) zz (diagRow long rem k j ++ List.replicate (C - j) 0) ∧ Below w'.heap.size w' wr) (fun i _ => C - (intOf i).toNat)
      case atStart => exact ⟨0, Nat.zero_le _, rfl, by simpa [diagRow] using HP.out, HBP.out⟩
      case round =>
        clear hcx hfx
        obtain ⟨j, hjC, rfl, hrow, hbj⟩ := hrel
        by_cases hjl : j < C
        · obtain ⟨c1, c2, f2⟩ := hrow.cells
          have c3 := c2 j hjl
          have f3 := f2 j
          clear c2 f2
          by_cases hx : ((k : Int) + (j : Int)) % long = rem
          · have hq : (((k : Int) + (j : Int)) % long == rem) = true := by simpa using hx
            have HX : Hid (diagX long rem k j = 1) := by unfold Hid diagX; rw [if_pos hx]
            have hp := hrow.put (j := j) 1
            have hb3 := below_turned hbj hp.2 (Nat.le_refl _) hbj.size
            have hs3 := updRow_step (diagRow long rem k j) j 1 C hjl (length_diagRow _ _ _ _)
            rw [hs3, ← HX.out, ← diagRow_succ, HX.out] at hp
            have H3 := Lib.hid hp.1; have HB3 := Lib.hid hb3
            clear hx hp hb3 hs3 hrow hbj
            go_wp2
            go_roundw
            case rel => exact ⟨j + 1, by omega, by go_num, H3.out, HB3.out⟩
            case measure => simp [intOf]; omega
          · have hq : (((k : Int) + (j : Int)) % long == rem) = false := by simpa using hx
            have HX : Hid (diagX long rem k j = 0) := by unfold Hid diagX; rw [if_neg hx]
            have hs3 : diagRow long rem k j ++ List.replicate (C - j) 0 = diagRow long rem k (j + 1) ++ List.replicate (C - (j + 1)) 0 := by
              rw [diagRow_succ, HX.out, show C - j = C - (j + 1) + 1 from by omega, List.replicate_succ]; simp
            rw [hs3] at hrow
            have H3 := Lib.hid hrow; have HB3 := Lib.hid hbj
            clear hx hs3 hrow hbj
            go_wp2
            go_roundw
            case rel => exact ⟨j + 1, by omega, by go_num, H3.out, HB3.out⟩
            case measure => simp [intOf]; omega
        · have hj' : j = C := by omega
          subst hj'
          rw [Nat.sub_self, List.replicate_zero, List.append_nil] at hrow
          have hof := hrow.own
          rw [HSTEP.out, ← diagL_succ] at hof
          have hhh := hrow.hh
          have HOF := Lib.hid (hof.wide (Nat.le_refl _) hhh); have HBF := Lib.hid hbj
          have hsf : w'.heap.size < wr.heap.size := by omega
          clear hrow hof hbj
          go_wp2
          go_roundw
          case rel => exact ⟨k + 1, _, by omega, by go_num, HOF.out, HBF.out, hsf⟩
          case measure => simp [intOf]; omega
    · have hk' : k = R := by omega
      subst hk'
      rw [Nat.sub_self, List.replicate_zero, List.append_nil] at hro
      have HR := Lib.hid hro; have HE := Lib.hid hbr
      clear hro hbr
      go_wp2
      go_ret
      exact ⟨_, _, rfl, by rw [HI.out]; exact HR.out, HE.out⟩
end Go.Proofs.Ytahamfgkcnepgaa

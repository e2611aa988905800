/- PlacesOf, of the program and of the reference. -/
import Derived.Test.YtahamfgkcnepgaaPl
import Derived.Test.YtahamfgkcnepgaaDiag
namespace Go.Proofs.Ytahamfgkcnepgaa
open Go.RowKit

/-- The places that begin in one field. -/
def cellPl (R C L r c : Nat) : List Pl := (if c + L ≤ C then [((r : Int), (c : Int), 0)] else []) ++ (if r + L ≤ R ∧ 1 < L then [((r : Int), (c : Int), 1)] else [])
def rowPl (R C L r n : Nat) : List Pl := (List.range n).flatMap (cellPl R C L r)
def placesL (R C L n : Nat) : List Pl := (List.range n).flatMap fun r => rowPl R C L r C
def placesB (rows cols long : Int) : Bool := inB 1 6 rows && (inB 1 6 cols && inB 1 6 long)
def placesI (rows cols long : Int) : List Pl := if placesB rows cols long then placesL rows.toNat cols.toNat long.toNat rows.toNat else []

theorem rowPl_succ (R C L r n : Nat) : rowPl R C L r (n + 1) = rowPl R C L r n ++ cellPl R C L r n := by unfold rowPl; rw [List.range_succ, List.flatMap_append]; simp
theorem placesL_succ (R C L n : Nat) : placesL R C L (n + 1) = placesL R C L n ++ rowPl R C L n C := by unfold placesL; rw [List.range_succ, List.flatMap_append]; simp
theorem length_cellPl (R C L r c : Nat) : (cellPl R C L r c).length ≤ 2 := by unfold cellPl; rw [List.length_append]; split <;> split <;> simp
theorem length_rowPl (R C L r : Nat) : ∀ n, (rowPl R C L r n).length ≤ 2 * n
  | 0 => by simp [rowPl]
  | n + 1 => by
    have := length_rowPl R C L r n
    have := length_cellPl R C L r n
    rw [rowPl_succ, List.length_append]; omega
theorem length_placesL (R C L : Nat) (hC : C ≤ 6) : ∀ n, (placesL R C L n).length ≤ 12 * n
  | 0 => by simp [placesL]
  | n + 1 => by
    have := length_placesL R C L hC n
    have := length_rowPl R C L n C
    rw [placesL_succ, List.length_append]; omega
theorem placesB_yes {rows cols long : Int} (h : placesB rows cols long = true) : (1 ≤ rows ∧ rows ≤ 6) ∧ (1 ≤ cols ∧ cols ≤ 6) ∧ (1 ≤ long ∧ long ≤ 6) := by
  simp only [placesB, inB, Bool.and_eq_true, decide_eq_true_eq] at h
  exact h
theorem length_placesI (rows cols long : Int) : (placesI rows cols long).length ≤ 72 := by
  unfold placesI
  split
  · rename_i h
    obtain ⟨h1, h2, h3⟩ := placesB_yes h
    have := length_placesL rows.toNat cols.toNat long.toNat (by omega) rows.toNat
    omega
  · simp

theorem ownP_lit (w : World) : OwnP (w.alloc (.cells #[] 26)) w.heap.size (w.heap.size + 1) (.slice (some ⟨w.heap.size, 0, none⟩) 0 0) [] :=
  ⟨World.ownsRow_lit w #[] 0 (Nat.le_refl _) (by simp) (by simp), fun k hk => (by injection hk with hk; subst hk; exact Nat.lt_succ_self _)⟩

set_option maxHeartbeats 1600000 in
set_option maxRecDepth 100000 in
theorem specPlacesOf_any (rows cols long : Int) (w : World) :
    Calls Try.prog 29 #[.int .i64 rows, .int .i64 cols, .int .i64 long] w fun e w' => ∃ v, e = .returned v ∧ OwnP w' w.heap.size w'.heap.size v (placesI rows cols long) ∧ Below w.heap.size w w' := by
  obtain ⟨i0, hi, hz0, hz1, hz2⟩ := info_parts infoPlace
  obtain ⟨W, hW⟩ : ∃ W : World, W = w.alloc (.cells #[] 26) := ⟨_, rfl⟩
  have hbW : Below w.heap.size w W := by rw [hW]; exact (Below.refl _ _).alloc (Nat.le_refl _) _
  have hsW : W.heap.size = w.heap.size + 1 := by rw [hW]; simp
  have o1 : OwnP W w.heap.size (w.heap.size + 1) (.slice (some ⟨w.heap.size, 0, none⟩) 0 0) [] := by rw [hW]; exact ownP_lit w
  have HW := Lib.hid hW; have HO := Lib.hid o1; have HB := Lib.hid hbW
  clear hW o1 hbW
  go_enter Try.func29, Try.ntmps29
  go_wp2_with fail
  rw [← HW.out]
  refine (l12Board_any _ _ _ _).mono ?_
  rintro e w' ⟨rfl, rfl⟩
  rcases Bool.eq_false_or_eq_true (inB 1 6 rows && (inB 1 6 cols && inB 1 6 long)) with hb | hb
  rotate_left
  · rw [hb]
    have HF : Hid (placesI rows cols long = []) := by unfold Hid placesI placesB; rw [hb]; rfl
    clear hb
    go_wp2
    go_ret
    exact ⟨_, rfl, by rw [HF.out, hsW]; exact HO.out, HB.out⟩
  rw [hb]
  obtain ⟨hr, hc, hl⟩ := placesB_yes hb
  obtain ⟨R, rfl⟩ := Int.eq_ofNat_of_zero_le (a := rows) (by omega)
  obtain ⟨C, rfl⟩ := Int.eq_ofNat_of_zero_le (a := cols) (by omega)
  obtain ⟨L, rfl⟩ := Int.eq_ofNat_of_zero_le (a := long) (by omega)
  have HI : Hid (placesI R C L = placesL R C L R) := by unfold Hid placesI placesB; rw [if_pos hb]; rfl
  clear hb
  go_wp2_with fail
  go_loopw [7, 8] (fun v i wr => ∃ k : Nat, k ≤ R ∧ i = .int .i64 k ∧ OwnP wr w.heap.size wr.heap.size v (placesL R C L k) ∧ Below w.heap.size w wr ∧ w.heap.size ≤ wr.heap.size) (fun _ i _ => R - (intOf i).toNat)
  case atStart => exact ⟨0, Nat.zero_le _, rfl, HO.out.wide (Nat.le_refl _) (by omega), HB.out, by omega⟩
  case round =>
    obtain ⟨k, hk, rfl, hro, hbr, hsr⟩ := hrel
    by_cases hlt : k < R
    · have hlk := length_placesL R C L (by omega) k
      go_wp2_with fail
      go_loopw [7, 9] (fun v i wr => ∃ j : Nat, j ≤ C ∧ i = .int .i64 j ∧ OwnP wr w.heap.size wr.heap.size v (placesL R C L k ++ rowPl R C L k j) ∧ Below w.heap.size w wr ∧ w.heap.size ≤ wr.heap.size) (fun _ i _ => C - (intOf i).toNat)
      case atStart => exact ⟨0, by omega, rfl, by simpa [rowPl] using hro, hbr, hsr⟩
      case round =>
        clear hro hbr hsr
        obtain ⟨j, hj2, rfl, ho, hb, hsz⟩ := hrel
        by_cases hjl : j < C
        · have hlj := length_rowPl R C L k j
          have hlen : (placesL R C L k ++ rowPl R C L k j).length ≤ 200 := by rw [List.length_append]; omega
          have hsucc := rowPl_succ R C L k j
          generalize hps : placesL R C L k ++ rowPl R C L k j = ps at ho hlen
          have HS : Hid (placesL R C L k ++ rowPl R C L k (j + 1) = ps ++ cellPl R C L k j) := by unfold Hid; rw [hsucc, ← List.append_assoc, hps]
          clear hsucc hps
          by_cases h1 : j + L ≤ C
          · have h1' : (j : Int) + (L : Int) ≤ C := by omega
            go_wp2_with (first | (at_builtin; go_loud (refine wpList_append_own _ rfl _ _ 33 rfl w.heap.size 26 i0 (.agg #[.int .i64 0, .int .i64 0, .int .i64 0]) 3 24 Try.underlying33 hi hz0 hz1 hz2 rfl (by decide) _ _ _ rfl (ho.1.alloc _) ⟨wr.heap.size, 0, none⟩ 1 1 [.int .i64 k, .int .i64 j, .int .i64 0] rfl rfl (three_new _ _ _ _ _) (three_cell _ _ _) ?c2 ?c3 ?c4 ?_)) | go_in)
            case c2 => unfold maxLen; omega
            case c3 => omega
            case c4 => simp; omega
            intro v' w1 hown' hgr _
            have hrel := place_app (p := ((k : Int), (j : Int), 0)) ho hb (Nat.le_refl _) hsz hown' hgr
            by_cases h2 : k + L ≤ R ∧ 1 < L
            · have h2a : (k : Int) + (L : Int) ≤ R := by omega
              have h2b : (1 : Int) < L := by omega
              have HC : Hid (cellPl R C L k j = [((k : Int), (j : Int), 0), ((k : Int), (j : Int), 1)]) := by unfold Hid cellPl; rw [if_pos h1, if_pos h2]; rfl
              obtain ⟨ho2, hb2, hsz2⟩ := hrel
              have hll2 : (ps ++ [((k : Int), (j : Int), (0 : Int))]).length = ps.length + 1 := by simp
              have hown2 := ho2.1
              rw [hll2] at hown2
              have HO2 := Lib.hid ho2
              clear ho hb hsz hown' hgr ho2 h1 h2
              go_wp2_with (first | (at_builtin; go_loud (refine wpList_append_own _ rfl _ _ 33 rfl w.heap.size 26 i0 (.agg #[.int .i64 0, .int .i64 0, .int .i64 0]) 3 24 Try.underlying33 hi hz0 hz1 hz2 rfl (by decide) _ _ _ rfl (hown2.alloc _) ⟨w1.heap.size, 0, none⟩ 1 1 [.int .i64 k, .int .i64 j, .int .i64 1] rfl rfl (three_new _ _ _ _ _) (three_cell _ _ _) ?c2 ?c3 ?c4 ?_)) | go_in)
              case c2 => unfold maxLen; omega
              case c3 => omega
              case c4 => first | (simp; omega) | omega
              intro v'' w2 hown'' hgr2 _
              have hrel2 := place_app (p := ((k : Int), (j : Int), 1)) HO2.out hb2 (Nat.le_refl _) hsz2 (by rw [hll2]; exact hown'') hgr2
              have HR := Lib.hid hrel2
              clear hrel2 hown'' hgr2 hb2 hsz2 hown2 hz0 hz1 hz2 hi
              go_wp2
              go_roundw
              case rel => exact ⟨j + 1, by omega, by go_num, by rw [HS.out, HC.out]; simpa using HR.out.1, HR.out.2.1, HR.out.2.2⟩
              case measure => simp [intOf]; omega
            · have HC : Hid (cellPl R C L k j = [((k : Int), (j : Int), 0)]) := by unfold Hid cellPl; rw [if_pos h1, if_neg h2]; rfl
              have HR := Lib.hid hrel
              clear hrel ho hb hsz hown' hgr hz0 hz1 hz2 hi
              by_cases h3 : k + L ≤ R
              · have h3a : (k : Int) + (L : Int) ≤ R := by omega
                have h3b : ¬ (1 : Int) < L := by omega
                clear h2
                go_wp2
                go_roundw
                case rel => exact ⟨j + 1, by omega, by go_num, by rw [HS.out, HC.out]; exact HR.out.1, HR.out.2.1, HR.out.2.2⟩
                case measure => simp [intOf]; omega
              · have h3a : ¬ (k : Int) + (L : Int) ≤ R := by omega
                clear h2
                go_wp2
                go_roundw
                case rel => exact ⟨j + 1, by omega, by go_num, by rw [HS.out, HC.out]; exact HR.out.1, HR.out.2.1, HR.out.2.2⟩
                case measure => simp [intOf]; omega
          · have h1' : ¬ (j : Int) + (L : Int) ≤ C := by omega
            by_cases h2 : k + L ≤ R ∧ 1 < L
            · have h2a : (k : Int) + (L : Int) ≤ R := by omega
              have h2b : (1 : Int) < L := by omega
              have HC : Hid (cellPl R C L k j = [((k : Int), (j : Int), 1)]) := by unfold Hid cellPl; rw [if_neg h1, if_pos h2]; rfl
              clear h1 h2
              go_wp2_with (first | (at_builtin; go_loud (refine wpList_append_own _ rfl _ _ 33 rfl w.heap.size 26 i0 (.agg #[.int .i64 0, .int .i64 0, .int .i64 0]) 3 24 Try.underlying33 hi hz0 hz1 hz2 rfl (by decide) _ _ _ rfl (ho.1.alloc _) ⟨wr.heap.size, 0, none⟩ 1 1 [.int .i64 k, .int .i64 j, .int .i64 1] rfl rfl (three_new _ _ _ _ _) (three_cell _ _ _) ?c2 ?c3 ?c4 ?_)) | go_in)
              case c2 => unfold maxLen; omega
              case c3 => omega
              case c4 => first | (simp; omega) | omega
              intro v' w1 hown' hgr _
              have hrel := place_app (p := ((k : Int), (j : Int), 1)) ho hb (Nat.le_refl _) hsz hown' hgr
              have HR := Lib.hid hrel
              clear hrel ho hb hsz hown' hgr hz0 hz1 hz2 hi
              go_wp2
              go_roundw
              case rel => exact ⟨j + 1, by omega, by go_num, by rw [HS.out, HC.out]; exact HR.out.1, HR.out.2.1, HR.out.2.2⟩
              case measure => simp [intOf]; omega
            · have HC : Hid (cellPl R C L k j = []) := by unfold Hid cellPl; rw [if_neg h1, if_neg h2]; rfl
              have HR := Lib.hid (And.intro ho (And.intro hb hsz))
              clear ho hb hsz hz0 hz1 hz2 hi h1
              by_cases h3 : k + L ≤ R
              · have h3a : (k : Int) + (L : Int) ≤ R := by omega
                have h3b : ¬ (1 : Int) < L := by omega
                clear h2
                go_wp2
                go_roundw
                case rel => exact ⟨j + 1, by omega, by go_num, by rw [HS.out, HC.out, List.append_nil]; exact HR.out.1, HR.out.2.1, HR.out.2.2⟩
                case measure => simp [intOf]; omega
              · have h3a : ¬ (k : Int) + (L : Int) ≤ R := by omega
                clear h2
                go_wp2
                go_roundw
                case rel => exact ⟨j + 1, by omega, by go_num, by rw [HS.out, HC.out, List.append_nil]; exact HR.out.1, HR.out.2.1, HR.out.2.2⟩
                case measure => simp [intOf]; omega
        · have hj' : j = C := by omega
          subst hj'
          rw [← placesL_succ] at ho
          have HR := Lib.hid (And.intro ho (And.intro hb hsz))
          clear ho hb hsz
          go_wp2
          go_roundw
          case rel => exact ⟨k + 1, by omega, by go_num, HR.out.1, HR.out.2.1, HR.out.2.2⟩
          case measure => simp [intOf]; omega
    · have hk' : k = R := by omega
      subst hk'
      have HR := Lib.hid hro; have HE := Lib.hid hbr
      clear hro hbr
      go_wp2
      go_ret
      exact ⟨_, rfl, by rw [HI.out]; exact HR.out, HE.out⟩

set_option maxRecDepth 100000 in
theorem field_first (r c X : Int) (w : World) (hr : 0 ≤ r ∧ r ≤ 5) (hc : 0 ≤ c ∧ c ≤ 5) (hX : 0 ≤ X ∧ X ≤ 6) :
    Calls Try.prog 60 #[.agg #[.int .i64 r, .int .i64 c, .int .i64 0], .int .i64 X] w fun e w' => e = .returned (.tuple #[.int .i64 r, .int .i64 (c + X)]) ∧ Below w.heap.size w w' := by
  obtain ⟨k, rfl⟩ := Int.eq_ofNat_of_zero_le hX.1
  have := field_any r c 0 k w hr hc (.inl rfl) (by omega)
  rw [show r + (k : Int) * 0 = r from by omega, show c + (k : Int) * (1 - 0) = c + k from by omega] at this
  exact this
theorem field_second (r c X : Int) (w : World) (hr : 0 ≤ r ∧ r ≤ 5) (hc : 0 ≤ c ∧ c ≤ 5) (hX : 0 ≤ X ∧ X ≤ 6) :
    Calls Try.prog 60 #[.agg #[.int .i64 r, .int .i64 c, .int .i64 1], .int .i64 X] w fun e w' => e = .returned (.tuple #[.int .i64 (r + X), .int .i64 c]) ∧ Below w.heap.size w w' := by
  obtain ⟨k, rfl⟩ := Int.eq_ofNat_of_zero_le hX.1
  have := field_any r c 1 k w hr hc (.inr rfl) (by omega)
  rw [show r + (k : Int) * 1 = r + k from by omega, show c + (k : Int) * (1 - 1) = c from by omega] at this
  exact this

/-- The first d of the places that begin in one field. -/
def partPl (R C L r c d : Nat) : List Pl := (if 0 < d ∧ c + L ≤ C then [((r : Int), (c : Int), 0)] else []) ++ (if 1 < d ∧ r + L ≤ R then [((r : Int), (c : Int), 1)] else [])
theorem partPl_0 (R C L r c : Nat) : partPl R C L r c 0 = [] := by simp [partPl]
theorem partPl_1 (R C L r c : Nat) : partPl R C L r c 1 = if c + L ≤ C then [((r : Int), (c : Int), 0)] else [] := by simp [partPl]
theorem partPl_2 (R C L r c : Nat) : partPl R C L r c 2 = partPl R C L r c 1 ++ if r + L ≤ R then [((r : Int), (c : Int), 1)] else [] := by simp [partPl]
theorem partPl_one (R C r c : Nat) : partPl R C 1 r c 1 = cellPl R C 1 r c := by simp [partPl, cellPl]
theorem partPl_two (R C L r c : Nat) (h : 1 < L) : partPl R C L r c 2 = cellPl R C L r c := by simp [partPl, cellPl, h]
theorem length_partPl (R C L r c d : Nat) : (partPl R C L r c d).length ≤ 2 := by unfold partPl; rw [List.length_append]; split <;> split <;> simp

set_option maxHeartbeats 3200000 in
set_option maxRecDepth 100000 in
theorem implPlacesOf_any (rows cols long : Int) (w : World) :
    Calls Try.prog 30 #[.int .i64 rows, .int .i64 cols, .int .i64 long] w fun e w' => ∃ v, e = .returned v ∧ OwnP w' w.heap.size w'.heap.size v (placesI rows cols long) ∧ Below w.heap.size w w' := by
  obtain ⟨i0, hi, hz0, hz1, hz2⟩ := info_parts infoPlace
  go_enter Try.func30, Try.ntmps30
  go_wp2_with fail
  refine (isBoard_any _ _ _).mono ?_
  rintro e w' ⟨rfl, rfl⟩
  rcases Bool.eq_false_or_eq_true (inB 1 6 rows && inB 1 6 cols) with hb | hb
  rotate_left
  · rw [hb]
    have HF : Hid (placesI rows cols long = []) := by unfold Hid placesI placesB; rw [← Bool.and_assoc, hb]; rfl
    clear hb
    go_wp2
    go_ret
    exact ⟨_, rfl, by rw [HF.out]; exact ownP_nil _ _ _, Below.refl _ _⟩
  rw [hb]
  go_wp2_with fail
  refine (in_any _ _ _ _).mono ?_
  rintro e w' ⟨rfl, rfl⟩
  rcases Bool.eq_false_or_eq_true (inB 1 6 long) with hlg | hlg
  rotate_left
  · rw [hlg]
    have HF : Hid (placesI rows cols long = []) := by unfold Hid placesI placesB; rw [hlg]; simp
    clear hb hlg
    go_wp2
    go_ret
    exact ⟨_, rfl, by rw [HF.out]; exact ownP_nil _ _ _, Below.refl _ _⟩
  rw [hlg]
  have hall : placesB rows cols long = true := by unfold placesB; rw [← Bool.and_assoc, hb, hlg]; rfl
  obtain ⟨hr, hc, hl⟩ := placesB_yes hall
  obtain ⟨R, rfl⟩ := Int.eq_ofNat_of_zero_le (a := rows) (by omega)
  obtain ⟨C, rfl⟩ := Int.eq_ofNat_of_zero_le (a := cols) (by omega)
  obtain ⟨L, rfl⟩ := Int.eq_ofNat_of_zero_le (a := long) (by omega)
  have HI : Hid (placesI R C L = placesL R C L R) := by unfold Hid placesI; rw [if_pos hall]; rfl
  clear hall hb hlg
  go_wp2_with fail
  go_loopw [7, 24] (fun v i wr => ∃ k : Nat, k ≤ R ∧ i = .int .i64 k ∧ OwnP wr w'.heap.size wr.heap.size v (placesL R C L k) ∧ Below w'.heap.size w' wr ∧ w'.heap.size ≤ wr.heap.size) (fun _ i _ => R - (intOf i).toNat)
  case atStart => exact ⟨0, Nat.zero_le _, rfl, ownP_nil _ _ _, Below.refl _ _, Nat.le_refl _⟩
  case round =>
    obtain ⟨k, hk, rfl, hro, hbr, hsr⟩ := hrel
    by_cases hlt : k < R
    · have hlk := length_placesL R C L (by omega) k
      go_wp2_with fail
      go_loopw [7, 28] (fun v i wr => ∃ j : Nat, j ≤ C ∧ i = .int .i64 j ∧ OwnP wr w'.heap.size wr.heap.size v (placesL R C L k ++ rowPl R C L k j) ∧ Below w'.heap.size w' wr ∧ w'.heap.size ≤ wr.heap.size) (fun _ i _ => C - (intOf i).toNat)
      case atStart => exact ⟨0, by omega, rfl, by simpa [rowPl] using hro, hbr, hsr⟩
      case round =>
        clear hro hbr hsr
        obtain ⟨j, hj2, rfl, ho, hb, hsz⟩ := hrel
        by_cases hjl : j < C
        · have hlj := length_rowPl R C L k j
          have hlen : (placesL R C L k ++ rowPl R C L k j).length ≤ 200 := by rw [List.length_append]; omega
          have hsucc := rowPl_succ R C L k j
          generalize hps : placesL R C L k ++ rowPl R C L k j = ps at ho hlen
          have HS : Hid (placesL R C L k ++ rowPl R C L k (j + 1) = ps ++ cellPl R C L k j) := by unfold Hid; rw [hsucc, ← List.append_assoc, hps]
          clear hsucc hps hlj hlk
          by_cases hL3 : L ≤ 2
          · have hL2 : (L : Int) ≤ 2 := by omega
            go_wp2_with fail
            go_loopw [7, 33] (fun v i wr => ∃ d : Nat, d ≤ L ∧ i = .int .i64 d ∧ OwnP wr w'.heap.size wr.heap.size v (ps ++ partPl R C L k j d) ∧ Below w'.heap.size w' wr ∧ w'.heap.size ≤ wr.heap.size) (fun _ i _ => L - (intOf i).toNat)
            case atStart => exact ⟨0, by omega, rfl, by rw [partPl_0, List.append_nil]; exact ho, hb, hsz⟩
            case round =>
              clear ho hb hsz
              obtain ⟨d, hd, rfl, ho, hb, hsz⟩ := hrel
              rcases d with _ | _ | d
              · go_wp2_with fail
                refine (field_first k j _ _ (by omega) (by omega) (by omega)).mono ?_
                rintro e w3 ⟨rfl, b3⟩
                have s3 := b3.size
                rw [World.size_alloc] at b3 s3
                have g3 := (b3.block _ (by omega)).trans (heap_alloc_new wr (.cells #[.int .i64 k, .int .i64 j, .int .i64 0] 26))
                obtain ⟨⟨x0, x1, x2⟩, -, -, -, -⟩ := blk3 g3
                have ba := (Below.refl wr.heap.size wr).alloc (Nat.le_refl _) (.cells #[.int .i64 k, .int .i64 j, .int .i64 0] 26)
                have ho3 := ((ho.below ba (Nat.le_refl _)).below b3 (by omega)).wide (Nat.le_refl _) (Nat.le_trans (Nat.le_succ _) s3)
                have hb3 := (hb.trans (ba.mono hsz)).trans (b3.mono (by omega))
                have hsz3 : w'.heap.size ≤ w3.heap.size := by omega
                clear b3 g3 ba ho hb hsz
                by_cases h1 : j + L ≤ C
                · have h1a : (j : Int) + ((L : Int) - 1) < C := by omega
                  have HC : Hid (ps ++ partPl R C L k j 1 = (ps ++ partPl R C L k j 0) ++ [((k : Int), (j : Int), 0)]) := by
                    unfold Hid
                    rw [partPl_1, partPl_0, if_pos h1]; simp
                  have hlen2 : (ps ++ partPl R C L k j 0).length ≤ 202 := by have := length_partPl R C L k j 0; rw [List.length_append]; omega
                  generalize hqs : ps ++ partPl R C L k j 0 = qs at ho3 HC hlen2
                  clear hqs h1
                  go_wp2_with (first | (at_builtin; go_loud (refine wpList_append_own _ rfl _ _ 33 rfl w'.heap.size 26 i0 (.agg #[.int .i64 0, .int .i64 0, .int .i64 0]) 3 24 Try.underlying33 hi hz0 hz1 hz2 rfl (by decide) _ _ _ rfl (ho3.1.alloc _) ⟨w3.heap.size, 0, none⟩ 1 1 [.int .i64 k, .int .i64 j, .int .i64 0] rfl rfl (three_new _ _ _ _ _) (three_cell _ _ _) ?c2 ?c3 ?c4 ?_)) | go_in)
                  case c2 => unfold maxLen; omega
                  case c3 => omega
                  case c4 => first | (simp; omega) | omega
                  intro v' w4 hown' hgr _
                  have hrel := place_app (p := ((k : Int), (j : Int), 0)) ho3 hb3 (Nat.le_refl _) hsz3 hown' hgr
                  rw [← HC.out] at hrel
                  have HR := Lib.hid hrel
                  clear hrel ho3 hb3 hsz3 hown' hgr hz0 hz1 hz2 hi
                  go_wp2
                  go_roundw
                  case rel => exact ⟨1, by omega, by go_num, HR.out.1, HR.out.2.1, HR.out.2.2⟩
                  case measure => simp [intOf]; omega
                · have h1a : ¬ (j : Int) + ((L : Int) - 1) < C := by omega
                  have HC : Hid (ps ++ partPl R C L k j 1 = ps ++ partPl R C L k j 0) := by
                    unfold Hid
                    rw [partPl_1, partPl_0, if_neg h1]
                  rw [← HC.out] at ho3
                  have HR := Lib.hid (And.intro ho3 (And.intro hb3 hsz3))
                  clear ho3 hb3 hsz3 hz0 hz1 hz2 hi h1
                  go_wp2
                  go_roundw
                  case rel => exact ⟨1, by omega, by go_num, HR.out.1, HR.out.2.1, HR.out.2.2⟩
                  case measure => simp [intOf]; omega
              · by_cases hL1 : L ≤ 1
                · have hpt : partPl R C L k j 1 = cellPl R C L k j := by
                    obtain rfl : L = 1 := by omega
                    exact partPl_one _ _ _ _
                  rw [hpt, ← HS.out] at ho
                  have HR := Lib.hid (And.intro ho (And.intro hb hsz))
                  clear ho hb hsz hz0 hz1 hz2 hi
                  go_wp2
                  go_roundw
                  case rel => exact ⟨j + 1, by omega, by go_num, HR.out.1, HR.out.2.1, HR.out.2.2⟩
                  case measure => simp [intOf]; omega
                · go_wp2_with fail
                  refine (field_second k j _ _ (by omega) (by omega) (by omega)).mono ?_
                  rintro e w3 ⟨rfl, b3⟩
                  have s3 := b3.size
                  rw [World.size_alloc] at b3 s3
                  have g3 := (b3.block _ (by omega)).trans (heap_alloc_new wr (.cells #[.int .i64 k, .int .i64 j, .int .i64 1] 26))
                  obtain ⟨⟨x0, x1, x2⟩, -, -, -, -⟩ := blk3 g3
                  have ba := (Below.refl wr.heap.size wr).alloc (Nat.le_refl _) (.cells #[.int .i64 k, .int .i64 j, .int .i64 1] 26)
                  have ho3 := ((ho.below ba (Nat.le_refl _)).below b3 (by omega)).wide (Nat.le_refl _) (Nat.le_trans (Nat.le_succ _) s3)
                  have hb3 := (hb.trans (ba.mono hsz)).trans (b3.mono (by omega))
                  have hsz3 : w'.heap.size ≤ w3.heap.size := by omega
                  clear b3 g3 ba ho hb hsz
                  by_cases h1 : k + L ≤ R
                  · have h1a : (k : Int) + ((L : Int) - 1) < R := by omega
                    have HC : Hid (ps ++ partPl R C L k j 2 = (ps ++ partPl R C L k j 1) ++ [((k : Int), (j : Int), 1)]) := by
                      unfold Hid
                      rw [partPl_2, if_pos h1, List.append_assoc]
                    have hlen2 : (ps ++ partPl R C L k j 1).length ≤ 202 := by have := length_partPl R C L k j 1; rw [List.length_append]; omega
                    generalize hqs : ps ++ partPl R C L k j 1 = qs at ho3 HC hlen2
                    clear hqs h1
                    go_wp2_with (first | (at_builtin; go_loud (refine wpList_append_own _ rfl _ _ 33 rfl w'.heap.size 26 i0 (.agg #[.int .i64 0, .int .i64 0, .int .i64 0]) 3 24 Try.underlying33 hi hz0 hz1 hz2 rfl (by decide) _ _ _ rfl (ho3.1.alloc _) ⟨w3.heap.size, 0, none⟩ 1 1 [.int .i64 k, .int .i64 j, .int .i64 1] rfl rfl (three_new _ _ _ _ _) (three_cell _ _ _) ?c2 ?c3 ?c4 ?_)) | go_in)
                    case c2 => unfold maxLen; omega
                    case c3 => omega
                    case c4 => first | (simp; omega) | omega
                    intro v' w4 hown' hgr _
                    have hrel := place_app (p := ((k : Int), (j : Int), 1)) ho3 hb3 (Nat.le_refl _) hsz3 hown' hgr
                    rw [← HC.out] at hrel
                    have HR := Lib.hid hrel
                    clear hrel ho3 hb3 hsz3 hown' hgr hz0 hz1 hz2 hi
                    go_wp2
                    go_roundw
                    case rel => exact ⟨2, by omega, by go_num, HR.out.1, HR.out.2.1, HR.out.2.2⟩
                    case measure => simp [intOf]; omega
                  · have h1a : ¬ (k : Int) + ((L : Int) - 1) < R := by omega
                    have HC : Hid (ps ++ partPl R C L k j 2 = ps ++ partPl R C L k j 1) := by
                      unfold Hid
                      rw [partPl_2, if_neg h1, List.append_nil]
                    rw [← HC.out] at ho3
                    have HR := Lib.hid (And.intro ho3 (And.intro hb3 hsz3))
                    clear ho3 hb3 hsz3 hz0 hz1 hz2 hi h1
                    go_wp2
                    go_roundw
                    case rel => exact ⟨2, by omega, by go_num, HR.out.1, HR.out.2.1, HR.out.2.2⟩
                    case measure => simp [intOf]; omega
              · rcases d with _ | d
                · rw [show partPl R C L k j 2 = cellPl R C L k j from partPl_two _ _ _ _ _ (by omega), ← HS.out] at ho
                  have HR := Lib.hid (And.intro ho (And.intro hb hsz))
                  clear ho hb hsz hz0 hz1 hz2 hi
                  go_wp2
                  go_roundw
                  case rel => exact ⟨j + 1, by omega, by go_num, HR.out.1, HR.out.2.1, HR.out.2.2⟩
                  case measure => simp [intOf]; omega
                · exfalso; omega
          · have hL2 : ¬ (L : Int) ≤ 2 := by omega
            have hL4 : ¬ (L : Int) < 2 := by omega
            go_wp2_with fail
            go_loopw [7, 33] (fun v i wr => ∃ d : Nat, d ≤ 2 ∧ i = .int .i64 d ∧ OwnP wr w'.heap.size wr.heap.size v (ps ++ partPl R C L k j d) ∧ Below w'.heap.size w' wr ∧ w'.heap.size ≤ wr.heap.size) (fun _ i _ => 2 - (intOf i).toNat)
            case atStart => exact ⟨0, by omega, rfl, by rw [partPl_0, List.append_nil]; exact ho, hb, hsz⟩
            case round =>
              clear ho hb hsz
              obtain ⟨d, hd, rfl, ho, hb, hsz⟩ := hrel
              rcases d with _ | _ | d
              · go_wp2_with fail
                refine (field_first k j _ _ (by omega) (by omega) (by omega)).mono ?_
                rintro e w3 ⟨rfl, b3⟩
                have s3 := b3.size
                rw [World.size_alloc] at b3 s3
                have g3 := (b3.block _ (by omega)).trans (heap_alloc_new wr (.cells #[.int .i64 k, .int .i64 j, .int .i64 0] 26))
                obtain ⟨⟨x0, x1, x2⟩, -, -, -, -⟩ := blk3 g3
                have ba := (Below.refl wr.heap.size wr).alloc (Nat.le_refl _) (.cells #[.int .i64 k, .int .i64 j, .int .i64 0] 26)
                have ho3 := ((ho.below ba (Nat.le_refl _)).below b3 (by omega)).wide (Nat.le_refl _) (Nat.le_trans (Nat.le_succ _) s3)
                have hb3 := (hb.trans (ba.mono hsz)).trans (b3.mono (by omega))
                have hsz3 : w'.heap.size ≤ w3.heap.size := by omega
                clear b3 g3 ba ho hb hsz
                by_cases h1 : j + L ≤ C
                · have h1a : (j : Int) + ((L : Int) - 1) < C := by omega
                  have HC : Hid (ps ++ partPl R C L k j 1 = (ps ++ partPl R C L k j 0) ++ [((k : Int), (j : Int), 0)]) := by
                    unfold Hid
                    rw [partPl_1, partPl_0, if_pos h1]; simp
                  have hlen2 : (ps ++ partPl R C L k j 0).length ≤ 202 := by have := length_partPl R C L k j 0; rw [List.length_append]; omega
                  generalize hqs : ps ++ partPl R C L k j 0 = qs at ho3 HC hlen2
                  clear hqs h1
                  go_wp2_with (first | (at_builtin; go_loud (refine wpList_append_own _ rfl _ _ 33 rfl w'.heap.size 26 i0 (.agg #[.int .i64 0, .int .i64 0, .int .i64 0]) 3 24 Try.underlying33 hi hz0 hz1 hz2 rfl (by decide) _ _ _ rfl (ho3.1.alloc _) ⟨w3.heap.size, 0, none⟩ 1 1 [.int .i64 k, .int .i64 j, .int .i64 0] rfl rfl (three_new _ _ _ _ _) (three_cell _ _ _) ?c2 ?c3 ?c4 ?_)) | go_in)
                  case c2 => unfold maxLen; omega
                  case c3 => omega
                  case c4 => first | (simp; omega) | omega
                  intro v' w4 hown' hgr _
                  have hrel := place_app (p := ((k : Int), (j : Int), 0)) ho3 hb3 (Nat.le_refl _) hsz3 hown' hgr
                  rw [← HC.out] at hrel
                  have HR := Lib.hid hrel
                  clear hrel ho3 hb3 hsz3 hown' hgr hz0 hz1 hz2 hi
                  go_wp2
                  go_roundw
                  case rel => exact ⟨1, by omega, by go_num, HR.out.1, HR.out.2.1, HR.out.2.2⟩
                  case measure => simp [intOf]
                · have h1a : ¬ (j : Int) + ((L : Int) - 1) < C := by omega
                  have HC : Hid (ps ++ partPl R C L k j 1 = ps ++ partPl R C L k j 0) := by
                    unfold Hid
                    rw [partPl_1, partPl_0, if_neg h1]
                  rw [← HC.out] at ho3
                  have HR := Lib.hid (And.intro ho3 (And.intro hb3 hsz3))
                  clear ho3 hb3 hsz3 hz0 hz1 hz2 hi h1
                  go_wp2
                  go_roundw
                  case rel => exact ⟨1, by omega, by go_num, HR.out.1, HR.out.2.1, HR.out.2.2⟩
                  case measure => simp [intOf]
              · go_wp2_with fail
                refine (field_second k j _ _ (by omega) (by omega) (by omega)).mono ?_
                rintro e w3 ⟨rfl, b3⟩
                have s3 := b3.size
                rw [World.size_alloc] at b3 s3
                have g3 := (b3.block _ (by omega)).trans (heap_alloc_new wr (.cells #[.int .i64 k, .int .i64 j, .int .i64 1] 26))
                obtain ⟨⟨x0, x1, x2⟩, -, -, -, -⟩ := blk3 g3
                have ba := (Below.refl wr.heap.size wr).alloc (Nat.le_refl _) (.cells #[.int .i64 k, .int .i64 j, .int .i64 1] 26)
                have ho3 := ((ho.below ba (Nat.le_refl _)).below b3 (by omega)).wide (Nat.le_refl _) (Nat.le_trans (Nat.le_succ _) s3)
                have hb3 := (hb.trans (ba.mono hsz)).trans (b3.mono (by omega))
                have hsz3 : w'.heap.size ≤ w3.heap.size := by omega
                clear b3 g3 ba ho hb hsz
                by_cases h1 : k + L ≤ R
                · have h1a : (k : Int) + ((L : Int) - 1) < R := by omega
                  have HC : Hid (ps ++ partPl R C L k j 2 = (ps ++ partPl R C L k j 1) ++ [((k : Int), (j : Int), 1)]) := by
                    unfold Hid
                    rw [partPl_2, if_pos h1, List.append_assoc]
                  have hlen2 : (ps ++ partPl R C L k j 1).length ≤ 202 := by have := length_partPl R C L k j 1; rw [List.length_append]; omega
                  generalize hqs : ps ++ partPl R C L k j 1 = qs at ho3 HC hlen2
                  clear hqs h1
                  go_wp2_with (first | (at_builtin; go_loud (refine wpList_append_own _ rfl _ _ 33 rfl w'.heap.size 26 i0 (.agg #[.int .i64 0, .int .i64 0, .int .i64 0]) 3 24 Try.underlying33 hi hz0 hz1 hz2 rfl (by decide) _ _ _ rfl (ho3.1.alloc _) ⟨w3.heap.size, 0, none⟩ 1 1 [.int .i64 k, .int .i64 j, .int .i64 1] rfl rfl (three_new _ _ _ _ _) (three_cell _ _ _) ?c2 ?c3 ?c4 ?_)) | go_in)
                  case c2 => unfold maxLen; omega
                  case c3 => omega
                  case c4 => first | (simp; omega) | omega
                  intro v' w4 hown' hgr _
                  have hrel := place_app (p := ((k : Int), (j : Int), 1)) ho3 hb3 (Nat.le_refl _) hsz3 hown' hgr
                  rw [← HC.out] at hrel
                  have HR := Lib.hid hrel
                  clear hrel ho3 hb3 hsz3 hown' hgr hz0 hz1 hz2 hi
                  go_wp2
                  go_roundw
                  case rel => exact ⟨2, by omega, by go_num, HR.out.1, HR.out.2.1, HR.out.2.2⟩
                  case measure => simp [intOf]
                · have h1a : ¬ (k : Int) + ((L : Int) - 1) < R := by omega
                  have HC : Hid (ps ++ partPl R C L k j 2 = ps ++ partPl R C L k j 1) := by
                    unfold Hid
                    rw [partPl_2, if_neg h1, List.append_nil]
                  rw [← HC.out] at ho3
                  have HR := Lib.hid (And.intro ho3 (And.intro hb3 hsz3))
                  clear ho3 hb3 hsz3 hz0 hz1 hz2 hi h1
                  go_wp2
                  go_roundw
                  case rel => exact ⟨2, by omega, by go_num, HR.out.1, HR.out.2.1, HR.out.2.2⟩
                  case measure => simp [intOf]
              · rcases d with _ | d
                · rw [show partPl R C L k j 2 = cellPl R C L k j from partPl_two _ _ _ _ _ (by omega), ← HS.out] at ho
                  have HR := Lib.hid (And.intro ho (And.intro hb hsz))
                  clear ho hb hsz hz0 hz1 hz2 hi
                  go_wp2
                  go_roundw
                  case rel => exact ⟨j + 1, by omega, by go_num, HR.out.1, HR.out.2.1, HR.out.2.2⟩
                  case measure => simp [intOf]; omega
                · exfalso; omega
        · have hj' : j = C := by omega
          subst hj'
          rw [← placesL_succ] at ho
          have HR := Lib.hid (And.intro ho (And.intro hb hsz))
          clear ho hb hsz
          go_wp2
          go_roundw
          case rel => exact ⟨k + 1, by omega, by go_num, HR.out.1, HR.out.2.1, HR.out.2.2⟩
          case measure => simp [intOf]; omega
    · have hk' : k = R := by omega
      subst hk'
      have HR := Lib.hid hro; have HE := Lib.hid hbr
      clear hro hbr
      go_wp2
      go_ret
      exact ⟨_, rfl, by rw [HI.out]; exact HR.out, HE.out⟩
end Go.Proofs.Ytahamfgkcnepgaa

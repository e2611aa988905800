/- The walks of the small helpers on rows of numbers: copy, compare, mark, look for marks, measure. -/
import Derived.Test.YtahamfgkcnepgaaNest
namespace Go.Proofs.Ytahamfgkcnepgaa
open Go.RowKit

set_option maxRecDepth 100000 in
theorem eqIntSS_true (v1 v2 : Value) (zss : List (List Int)) (w : World) (h1 : RdR w v1 zss) (h2 : RdR w v2 zss) :
    Calls Try.prog 22 #[v1, v2] w fun e w' => e = .returned (.bool true) ∧ ∃ n, w' = w.drewN n := by
  obtain ⟨a1, c1, rfl, l1, m1, r1⟩ := h1
  obtain ⟨a2, c2, rfl, l2, m2, r2⟩ := h2
  go_enter Try.func22, Try.ntmps22
  go_wp2
  go_loopw [5] (fun i wr => ∃ k : Nat, k ≤ zss.length ∧ i = .int .i64 k ∧ ∃ n, wr = w.drewN n) (fun i _ => zss.length - (intOf i).toNat)
  case atStart => exact ⟨0, Nat.zero_le _, rfl, 0, rfl⟩
  case round =>
    obtain ⟨k, hk, rfl, n, rfl⟩ := hrel
    by_cases hlt : k < zss.length
    · obtain ⟨g1, o1, A1, d1, zs, rfl, hg1, x1, y1, Z1⟩ := rdR_at r1 k hlt
      obtain ⟨g2, o2, A2, d2, ys, rfl, hg2, x2, y2, Z2⟩ := rdR_at r2 k hlt
      obtain rfl : zs = ys := Z1.out.trans Z2.out.symm
      have HT : Hid (∀ m, Calls Try.prog 61 #[.slice A1 zs.length d1, .slice A2 zs.length d2] (w.drewN (n + m)) fun e w'' => e = .returned (.bool true) ∧ ∃ q, w'' = w.drewN (n + q)) := fun m =>
        (eqIntS_true _ _ zs (w.drewN (n + m)) (y1.drewN _) (y2.drewN _)).mono fun e w' ⟨he, q, hq⟩ => ⟨he, m + q, by rw [hq, World.drewN_drewN, Nat.add_assoc]⟩
      clear r1 r2 y1 y2 Z1 Z2
      go_wp2
      go_quiet ((go_at_call 61; exact HT.out _))
      go_wp2
      go_roundw
      case rel => exact ⟨k + 1, by omega, by go_num, _, rfl⟩
      case measure => simp [intOf]; omega
    · go_wp2
      go_ret
      exact ⟨rfl, n, rfl⟩

set_option maxRecDepth 100000 in
theorem sameRows_true (v1 v2 : Value) (zss : List (List Int)) (w : World) (h1 : RdR w v1 zss) (h2 : RdR w v2 zss) :
    Calls Try.prog 45 #[v1, v2] w fun e w' => e = .returned (.bool true) ∧ ∃ n, w' = w.drewN n := by
  obtain ⟨a1, c1, rfl, l1, m1, r1⟩ := h1
  obtain ⟨a2, c2, rfl, l2, m2, r2⟩ := h2
  go_enter Try.func45, Try.ntmps45
  go_wp2
  go_loopw [5] (fun i wr => ∃ k : Nat, k ≤ zss.length ∧ i = .int .i64 k ∧ ∃ n, wr = w.drewN n) (fun i _ => zss.length - (intOf i).toNat)
  case atStart => exact ⟨0, Nat.zero_le _, rfl, 0, rfl⟩
  case round =>
    obtain ⟨k, hk, rfl, n, rfl⟩ := hrel
    by_cases hlt : k < zss.length
    · obtain ⟨g1, o1, A1, d1, zs, rfl, hg1, x1, y1, Z1⟩ := rdR_at r1 k hlt
      obtain ⟨g2, o2, A2, d2, ys, rfl, hg2, x2, y2, Z2⟩ := rdR_at r2 k hlt
      obtain rfl : zs = ys := Z1.out.trans Z2.out.symm
      have HT : Hid (∀ m, Calls Try.prog 78 #[.slice A1 zs.length d1, .slice A2 zs.length d2] (w.drewN (n + m)) fun e w'' => e = .returned (.bool true) ∧ ∃ q, w'' = w.drewN (n + q)) := fun m =>
        (sameInts_true _ _ zs (w.drewN (n + m)) (y1.drewN _) (y2.drewN _)).mono fun e w' ⟨he, q, hq⟩ => ⟨he, m + q, by rw [hq, World.drewN_drewN, Nat.add_assoc]⟩
      clear r1 r2 y1 y2 Z1 Z2
      go_wp2
      go_quiet ((go_at_call 78; exact HT.out _))
      go_wp2
      go_roundw
      case rel => exact ⟨k + 1, by omega, by go_num, _, rfl⟩
      case measure => simp [intOf]; omega
    · go_wp2
      go_ret
      exact ⟨rfl, n, rfl⟩

set_option maxRecDepth 100000 in
theorem markIntSS_any (lo hi : Nat) (v : Value) (us : List Value) (zss : List (List Int)) (k0 : Int) (w : World) (h : OwnR w lo hi v us zss) (hh : hi ≤ w.heap.size) (h0 : 0 ≤ k0) (hb : k0 + manyR zss ≤ 4611686018427387904) :
    Calls Try.prog 23 #[v, .int .i64 k0] w fun e w' => e = .returned (.int .i64 (k0 + manyR zss)) ∧ OwnR w' lo hi v us (upRows k0 zss) ∧ Turned lo hi w w' ∧ w'.heap.size = w.heap.size := by
  have hown := h.outer
  obtain ⟨hl, hh'⟩ := hown
  rcases hh' with ⟨rfl, hz⟩ | ⟨g, cap, cur, rfl, hg, -, hn, hm, -, -⟩
  · have hz' := List.length_eq_zero_iff.1 hz
    subst hz'
    go_enter Try.func23, Try.ntmps23
    go_wp2
    refine wp_loop_rounds 1 ?_
    rw [rounds_succ]
    go_wp2
    go_ret
    exact ⟨by simp [manyR], h, turned_refl _ _ _, rfl⟩
  · clear hl
    unfold maxLen at hm
    go_enter Try.func23, Try.ntmps23
    go_wp2
    go_loopw [1, 5] (fun q i wr => ∃ k : Nat, k ≤ zss.length ∧ i = .int .i64 k ∧ q = .int .i64 (k0 + manyR (zss.take k)) ∧ OwnR wr lo hi (.slice (some ⟨g, 0, none⟩) zss.length cap) us (upRows k0 (zss.take k) ++ zss.drop k) ∧ Turned lo hi w wr ∧ wr.heap.size = w.heap.size)
      (fun _ i _ => zss.length - (intOf i).toNat)
    case atStart => exact ⟨0, Nat.zero_le _, rfl, by simp [manyR], by simpa [upRows] using h, turned_refl _ _ _, rfl⟩
    case round =>
      obtain ⟨k, hk, rfl, rfl, hr, ht, hs⟩ := hrel
      by_cases hlt : k < zss.length
      · have hlu := length_upd zss k0 k hk
        have hul := hr.len
        have ho := hr.outer
        rw [hlu] at ho
        have hc := ho.cellAt k (by omega)
        have hin := (hr.inner k (by omega)).1
        rw [getD_upd zss k0 k hlt] at hin
        obtain ⟨u, hu⟩ : ∃ u, u = us.getD k nilV := ⟨_, rfl⟩
        have hcu : us[k]? = some u := by rw [hu]; simp [List.getD, List.getElem?_eq_getElem (show k < us.length by omega)]
        rw [hcu] at hc
        rw [← hu] at hin
        have hle := manyR_take_le zss (k + 1)
        have hsn := manyR_snoc zss k hlt
        have hst := upRows_step zss k0 k hlt
        obtain ⟨zs, hzs⟩ : ∃ zs, zs = zss.getD k [] := ⟨_, rfl⟩
        rw [← hzs] at hsn hin hst
        obtain ⟨M, hM⟩ : ∃ M, M = manyR (zss.take k) := ⟨_, rfl⟩
        rw [← hM] at hsn hst ⊢
        have HM := Lib.hid hsn; have HST := Lib.hid hst; have HU := Lib.hid hu; have HS := Lib.hid hs; have HR := Lib.hid hr; have HLU := Lib.hid hlu; have HH := Lib.hid hh
        have hbd : k0 + (M : Int) + zs.length ≤ 4611686018427387904 := by omega
        have hk0 : 0 ≤ k0 + (M : Int) := by omega
        clear hsn hle hst hu hs hM hzs ho hr hlu hcu hul h hh
        go_wp2_with fail
        refine (markIntS_any _ _ u zs _ _ hin hk0 hbd).mono ?_
        rintro e w2 ⟨rfl, o2, t2, s2⟩
        rw [HU.out] at o2 t2
        obtain ⟨r2, r3⟩ := HR.out.rowTurned (by rw [HS.out]; exact HH.out) (by rw [HLU.out]; exact hlt) o2 t2
        rw [HST.out] at r2
        have H2 := Lib.hid r2; have H3 := Lib.hid (turned_trans ht r3); have S2 := Lib.hid (s2.trans HS.out)
        clear o2 t2 r2 r3 ht s2 hin
        go_wp2
        go_roundw
        case rel => exact ⟨k + 1, by omega, by go_num, by rw [HM.out]; go_num, H2.out, H3.out, S2.out⟩
        case measure => simp [intOf]; omega
      · have hk' : k = zss.length := by omega
        subst hk'
        rw [List.take_length] at hr ⊢
        rw [List.drop_length, List.append_nil] at hr
        have HR := Lib.hid hr; have HT := Lib.hid ht
        clear hr ht
        go_wp2
        go_ret
        exact ⟨rfl, HR.out, HT.out, hs⟩

set_option maxRecDepth 100000 in
theorem heldIntSS_up (v : Value) (zss : List (List Int)) (k0 : Int) (w : World) (h : RdR w v (upRows k0 zss)) (h0 : 0 ≤ k0) (hb : k0 + manyR zss ≤ 4611686018427387904) :
    Calls Try.prog 24 #[v, .int .i64 k0] w fun e w' => e = .returned (.int .i64 (k0 + manyR zss)) ∧ w' = w := by
  obtain ⟨a1, c1, rfl, l1, m1, r1⟩ := h
  have hlu := length_upRows k0 zss
  rw [hlu] at l1 ⊢
  go_enter Try.func24, Try.ntmps24
  go_wp2
  go_loop [1, 5] (fun q i => ∃ k : Nat, k ≤ zss.length ∧ i = .int .i64 k ∧ q = .int .i64 (k0 + manyR (zss.take k))) (fun _ i => zss.length - (intOf i).toNat)
  case atStart => exact ⟨0, Nat.zero_le _, rfl, by simp [manyR]⟩
  case round =>
    obtain ⟨k, hk, rfl, rfl⟩ := hrel
    by_cases hlt : k < zss.length
    · obtain ⟨g1, o1, A1, d1, zs, rfl, hg1, x1, y1, Z1⟩ := rdR_at r1 k (by rw [hlu]; exact hlt)
      have hz := Z1.out
      rw [getD_upRows zss k0 k hlt] at hz
      have hle := manyR_take_le zss (k + 1)
      have hsn := manyR_snoc zss k hlt
      obtain ⟨n, hn⟩ : ∃ n, n = (zss.getD k []).length := ⟨_, rfl⟩
      obtain ⟨M, hM⟩ : ∃ M, M = manyR (zss.take k) := ⟨_, rfl⟩
      rw [← hn, ← hM] at hz
      rw [← hn, ← hM] at hsn
      rw [← hM]
      have HM := Lib.hid hsn
      have hbd : k0 + (M : Int) + n ≤ 4611686018427387904 := by omega
      have hk0 : 0 ≤ k0 + (M : Int) := by omega
      subst hz
      clear hsn hle hn hM r1 Z1 hlu
      go_wp2_with fail
      refine (heldIntS_up _ n _ _ y1 hk0 hbd).mono ?_
      rintro e w2 ⟨rfl, rfl⟩
      go_wp2
      go_round
      case rel => exact ⟨k + 1, by omega, by go_num, by rw [HM.out]; go_num⟩
      case measure => simp [intOf]; omega
    · have hk' : k = zss.length := by omega
      subst hk'
      rw [List.take_length]
      go_wp2
      go_ret
      exact ⟨rfl, rfl⟩

theorem cpyR_step (zss : List (List Int)) (j : Nat) (h : j < zss.length) : (zss.take j ++ List.replicate (zss.length - j) []).set j (zss.getD j []) = zss.take (j + 1) ++ List.replicate (zss.length - (j + 1)) [] := by
  have hl : (zss.take j).length = j := by simp; omega
  have er : List.replicate (zss.length - j) ([] : List Int) = [] :: List.replicate (zss.length - (j + 1)) [] := by
    rw [show zss.length - j = zss.length - (j + 1) + 1 from by omega, List.replicate_succ]
  rw [takeR_snoc zss j h, List.set_append_right _ _ (by omega), hl, Nat.sub_self, er]
  simp only [List.set_cons_zero, List.append_assoc, List.singleton_append]
theorem length_cpyR (zss : List (List Int)) (j : Nat) (h : j ≤ zss.length) : (zss.take j ++ List.replicate (zss.length - j) ([] : List Int)).length = zss.length := by
  rw [List.length_append, List.length_take, List.length_replicate]; omega

theorem ownR_made {w : World} {lo g n cap : Nat} (h : w.ownsRow lo 49 1 (.slice (some ⟨g, 0, none⟩) n cap) n (List.replicate n nilV)) : OwnR w lo w.heap.size (.slice (some ⟨g, 0, none⟩) n cap) (List.replicate n nilV) (List.replicate n []) := by
  have e : ∀ j, j < n → (List.replicate n nilV).getD j nilV = nilV := fun j hj => by simp [List.getD, hj]
  refine ⟨by rw [List.length_replicate]; exact h, fun k hk => (h.lt k hk).2, fun j hj => ?_, fun i j k hi hj _ hk => ?_⟩
  · rw [List.length_replicate] at hj
    rw [e j hj, show (List.replicate n ([] : List Int)).getD j [] = [] from by simp [List.getD, hj]]
    exact ⟨⟨World.ownsRow_nil _ _ _ _, fun k hk => by cases hk⟩, fun k hk => by cases hk⟩
  · rw [List.length_replicate] at hi
    rw [e i hi] at hk; cases hk

set_option maxRecDepth 100000 in
theorem toIntSS_any (v : Value) (zss : List (List Int)) (w : World) (h : RdR w v zss) (hsz : zss.length ≤ 1048576) (hrow : ∀ zs ∈ zss, zs.length ≤ 1048576) :
    Calls Try.prog 27 #[v] w fun e w' => ∃ u us, e = .returned u ∧ OwnR w' w.heap.size w'.heap.size u us zss ∧ Below w.heap.size w w' := by
  have HRD := Lib.hid h
  obtain ⟨a1, c1, rfl, l1, m1, r1⟩ := h
  obtain ⟨i0, hi, hz0, hz1, hz2⟩ := info_parts infoRow
  go_enter Try.func27, Try.ntmps27
  go_wp2_with (at_make; refine wpList_make_full _ rfl _ _ 24 rfl w.heap.size 49 i0 (.slice none 0 0) 1 Try.underlying24 hi hz0 hz1 _ _ _ _ zss.length rfl rfl rfl rfl ?c1 ?c2 ?c3 ?_)
  case c1 => rw [hz2]; omega
  case c2 => unfold maxLen; omega
  case c3 => exact Nat.le_refl _
  intro w1 hown hgr
  have e0 : (madeCells #[Value.slice none 0 0] zss.length).toList = List.replicate zss.length nilV := (toList_madeCells_one _ _).trans (by simp [nilV])
  rw [e0] at hown
  have hb1 : Below w.heap.size w w1 := (Below.refl _ _).grown hgr (Nat.le_refl _) (fun k hk => by cases hk)
  have hs1 : w.heap.size < w1.heap.size := (hown.lt _ rfl).2
  have hst := ownR_made hown
  have E0 := Lib.hid e0
  clear e0 hz0 hz1 hz2 hi hgr hown
  go_wp2
  go_loopw [4] (fun i wr => ∃ (k : Nat) (us : List Value), k ≤ zss.length ∧ i = .int .i64 k ∧ OwnR wr w.heap.size wr.heap.size (.slice (some ⟨w.heap.size, 0, none⟩) zss.length zss.length) us (zss.take k ++ List.replicate (zss.length - k) []) ∧ Below w.heap.size w wr ∧ w.heap.size < wr.heap.size)
    (fun i _ => zss.length - (intOf i).toNat)
  case atStart => exact ⟨0, _, Nat.zero_le _, rfl, by simpa using hst, hb1, hs1⟩
  case round =>
    clear hst hb1 hs1
    obtain ⟨k, us, hk, rfl, hr, hbr, hsr⟩ := hrel
    by_cases hlt : k < zss.length
    · obtain ⟨a2, c2, e9, l2, m2, r2⟩ := HRD.out.below hbr
      injection e9 with e1 e2 e3
      subst e1 e3
      obtain ⟨g1, o1, A1, d1, zs, rfl, hg1, x1, y1, Z1⟩ := rdR_at r2 k hlt
      have hzl : zs.length ≤ 1048576 := hrow zs (by rw [Z1.out]; simp [List.getD, List.getElem?_eq_getElem hlt])
      clear r1 r2
      go_wp2_with fail
      refine (toIntS_any _ zs _ y1 (by omega)).mono ?_
      rintro e w2 ⟨u, rfl, o2, b2⟩
      have hlc := length_cpyR zss k hk
      have hstep := cpyR_step zss k hlt
      rw [← Z1.out] at hstep
      obtain ⟨A3, n3, rfl⟩ := own_sl o2
      obtain ⟨ot, otb⟩ := own_tight o2
      generalize hzz : zss.take k ++ List.replicate (zss.length - k) [] = zz at hr hlc hstep
      have hr' : OwnR wr w.heap.size wr.heap.size (.slice (some ⟨w.heap.size, 0, none⟩) zz.length zss.length) us zz := by rw [hlc]; exact hr
      have hput := hr'.put (j := k) (Nat.le_refl _) b2 ot otb (by omega) rfl
      rw [hlc, hstep] at hput
      have hr2 := hr.below b2 (Nat.le_refl _)
      have hul := hr2.len
      have ho2 := hr2.outer
      rw [hlc] at ho2
      obtain ⟨x, hc⟩ := own_cell ho2 k hlt
      have hfr := ho2.frozenAt k
      have HP := Lib.hid hput
      have HB := Lib.hid (below_turned hbr hput.2 (Nat.le_refl _) hbr.size)
      have s2 := b2.size
      clear hput hr hr2 hr' ho2 hul hstep hlc hzz ot otb o2 b2 hbr x1 y1 Z1 m2 l2 e2
      go_wp2
      go_roundw
      case rel => exact ⟨k + 1, _, by omega, by go_num, by simpa using HP.out.1, HB.out, by simp; omega⟩
      case measure => simp [intOf]; omega
    · have hk' : k = zss.length := by omega
      subst hk'
      go_wp2
      go_ret
      refine ⟨_, us, rfl, ?_, hbr⟩
      simpa using hr

set_option maxRecDepth 100000 in
theorem szIntS_any (a : Option Addr) (n c : Nat) (left : Int) (w : World) (hn : n ≤ 9223372036854775807) (h0 : 0 ≤ left) (h1 : left ≤ 1048576) :
    Calls Try.prog 64 #[.slice a n c, .int .i64 left] w fun e w' => e = .returned (.int .i64 (if left < n then -1 else left - n)) ∧ w' = w := by
  by_cases hb : left < n
  · rw [if_pos hb]
    go_enter Try.func64, Try.ntmps64
    go_wp2
    go_ret
    exact ⟨rfl, rfl⟩
  · rw [if_neg hb]
    go_enter Try.func64, Try.ntmps64
    go_wp2
    go_ret
    exact ⟨rfl, rfl⟩

set_option maxRecDepth 100000 in
theorem szIntSS_any (v : Value) (zss : List (List Int)) (w : World) (h : RdR w v zss) :
    Calls Try.prog 25 #[v, .int .i64 1048576] w fun e w' => (∃ l : Int, e = .returned (.int .i64 l) ∧ -1 ≤ l ∧ l ≤ 1048576 ∧ (0 ≤ l → zss.length + manyR zss ≤ 1048576)) ∧ w' = w := by
  obtain ⟨a1, c1, rfl, l1, m1, r1⟩ := h
  by_cases hbig : 1048576 < zss.length
  · go_enter Try.func25, Try.ntmps25
    go_wp2
    go_ret
    exact ⟨⟨-1, rfl, by omega, by omega, by omega⟩, rfl⟩
  · go_enter Try.func25, Try.ntmps25
    go_wp2
    go_loop [1, 5] (fun q i => ∃ k : Nat, k ≤ zss.length ∧ i = .int .i64 k ∧ zss.length + manyR (zss.take k) ≤ 1048576 ∧ q = .int .i64 (1048576 - (zss.length : Int) - manyR (zss.take k))) (fun _ i => zss.length - (intOf i).toNat)
    case atStart => exact ⟨0, Nat.zero_le _, rfl, by simp [manyR]; omega, by simp [manyR]⟩
    case round =>
      obtain ⟨k, hk, rfl, hsum, rfl⟩ := hrel
      by_cases hlt : k < zss.length
      · obtain ⟨g1, o1, A1, d1, zs, rfl, hg1, x1, y1, Z1⟩ := rdR_at r1 k hlt
        have hsn := manyR_snoc zss k hlt
        rw [← Z1.out] at hsn
        obtain ⟨M, hM⟩ : ∃ M, M = manyR (zss.take k) := ⟨_, rfl⟩
        rw [← hM] at hsn hsum ⊢
        have HM := Lib.hid hsn; have HZ := Lib.hid hM
        have hnl : zs.length ≤ 9223372036854775807 := by obtain ⟨A', c', e9, q1, q2, q3⟩ := y1; injection e9 with e1 e2 e3; omega
        clear hsn hM r1 y1
        go_wp2_with fail
        refine (szIntS_any _ zs.length _ _ _ hnl (by omega) (by omega)).mono ?_
        rintro e w2 ⟨rfl, rfl⟩
        by_cases hb : 1048576 - (zss.length : Int) - M < zs.length
        · rw [if_pos hb]
          go_wp2
          go_ret
          exact ⟨⟨-1, rfl, by omega, by omega, by omega⟩, rfl⟩
        · rw [if_neg hb]
          go_wp2
          go_round
          case rel => exact ⟨k + 1, by omega, by go_num, by rw [HM.out]; omega, by rw [HM.out]; go_num⟩
          case measure => simp [intOf]; omega
      · have hk' : k = zss.length := by omega
        subst hk'
        rw [List.take_length] at hsum ⊢
        go_wp2
        go_ret
        exact ⟨⟨_, rfl, by omega, by omega⟩, rfl⟩
end Go.Proofs.Ytahamfgkcnepgaa

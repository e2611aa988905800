/- Whether somebody can say a text, of the program and of the reference. -/
import Derived.Test.YtajelgheccfcoaaWaysI
import Derived.Test.YtajelgheccfcoaaWaysS
import Derived.Lib.SliceRun
import Derived.Lib.AppendZeros
namespace Go.Proofs.Ytajelgheccfcoaa
open Go.RowKit

def canI (p : Int) (ps : List Sy) (q : Sy) : Bool := decide (ps.length < 6) && decide (0 < (waysI p (ps ++ [q])).length)

/-- What lies in a slice of sayings, cell by cell. -/
theorem rdS_cells {w : World} {ad : Addr} {n cap : Nat} {ps : List Sy} (h : RdS w (.slice (some ad) n cap) ps) : ∀ j u, (cellsS ps)[j]? = some u → w.cell? (ad.add j) = some u := by
  obtain ⟨a, cap', e, -, -, h3⟩ := h
  injection e with e1 e2 e3
  intro j u hu
  have hj : j < (cellsS ps).length := by
    refine Classical.byContradiction fun hn => ?_
    rw [List.getElem?_eq_none (by omega)] at hu; cases hu
  rw [length_cellsS] at hj
  obtain ⟨g', off', e4, hg, hc⟩ := h3 (by omega)
  rw [← e1] at e4
  injection e4 with e4
  subst e4
  have e : (⟨g', off', none⟩ : Addr).add j = ⟨g', off' + j, none⟩ := by unfold Addr.add; split <;> simp_all
  rw [e]
  obtain ⟨c0, c1⟩ := hc (j / 2) (by omega)
  obtain ⟨d0, d1⟩ := cellsS_at ps (j / 2) (by omega)
  rcases (show j = j / 2 * 2 ∨ j = j / 2 * 2 + 1 by omega) with h2 | h2
  · rw [h2] at hu ⊢; rw [c0]; rw [d0] at hu; exact hu
  · rw [h2] at hu ⊢; rw [show off' + (j / 2 * 2 + 1) = off' + j / 2 * 2 + 1 by omega, c1]; rw [d1] at hu; exact hu
theorem cellsS_one : ∀ ps : List Sy, ∀ u ∈ cellsS ps, u.oneCell' = true
  | [], u, h => by cases h
  | p :: l, u, h => by
    simp only [cellsS, List.mem_cons] at h
    rcases h with rfl | rfl | h
    · rfl
    · rfl
    · exact cellsS_one l u h

set_option maxRecDepth 100000 in
theorem cloneS_any (v : Value) (ps : List Sy) (w : World) (h : RdS w v ps) (hl : ps.length ≤ 1048576) :
    Calls Try.prog 41 #[v] w fun e w' => ∃ v', e = .returned v' ∧ OwnS w' w.heap.size w'.heap.size v' ps ∧ Below w.heap.size w w' := by
  have HR := Lib.hid h
  obtain ⟨a1, c1, rfl, l1, m1, r1⟩ := h
  have qT : ∀ (w : World) (a : Option Addr) (n c n' c' : Nat), (binOp .eql 26 (.slice a n c) (.slice none n' c')).run Try.prog w = .ok (.bool a.isNone) w := fun w a n c n' c' => Lib.run_eql_slice_nil w _ _ a n c n' c' Try.underlying26
  have hb0 : ∀ o, Below w.heap.size w (w.alloc o) := fun o => (Below.refl _ _).alloc (Nat.le_refl _) o
  have ho0 : (w.alloc (.cells #[] 45)).ownsRow w.heap.size 45 2 (.slice (some ⟨w.heap.size, 0, none⟩) 0 0) 0 [] := World.ownsRow_lit w #[] 0 (Nat.le_refl _) (by simp) (by simp)
  obtain ⟨i0, hi, hz0, hz1, hz2⟩ := info_parts infoSay
  cases a1 with
  | none =>
    have h0 : ps = [] := by
      refine List.length_eq_zero_iff.1 (Classical.byContradiction fun hn => ?_)
      obtain ⟨g, off, e, -⟩ := r1 (by omega)
      cases e
    subst h0
    clear hi hz0 hz1 hz2 ho0 hb0 r1
    go_enter Try.func41, Try.ntmps41
    go_wp2
    go_ret
    exact ⟨_, rfl, ownS_nil _ _ _, Below.refl _ _⟩
  | some ad =>
    have hcs := rdS_cells (HR.out.below (hb0 (.cells #[] 45)) (Nat.le_refl _))
    go_enter Try.func41, Try.ntmps41
    go_wp2_with (at_builtin; refine wpList_append_own _ rfl _ _ 26 rfl w.heap.size 45 i0 (.agg #[.int .i64 0, .string ⟨#[]⟩]) 2 24 Try.underlying26 hi hz0 hz1 hz2 rfl (by decide) _ 0 [] rfl ho0 ad ps.length c1 (cellsS ps) rfl ?n0 ?n1 ?n2 ?c1 ?c2 ?c3 ?_)
    case n0 => exact length_cellsS ps
    case n1 => exact hcs
    case n2 => exact cellsS_one ps
    case c1 => unfold maxLen; omega
    case c2 => omega
    case c3 => simp
    intro v' w1 hown hgr _
    have hB : Below w.heap.size w w1 := by
      refine (hb0 (.cells #[] 45)).grown hgr (by simp) (fun k hk => ?_)
      have : w.heap.size = k := by injection hk
      omega
    have HB := Lib.hid hB; clear hB
    have HO := Lib.hid (OwnS.new (ps := ps) (lo := w.heap.size) (by simpa using hown) (Nat.le_refl _))
    clear hown hgr hz0 hz1 hz2 hi qT hb0 ho0 r1 hcs
    go_wp2
    go_ret
    exact ⟨_, rfl, HO.out, HB.out⟩

set_option maxHeartbeats 3200000 in
set_option maxRecDepth 100000 in
theorem implCanSay_any (p : Int) (v : Value) (ps : List Sy) (b : Int) (l : List UInt8) (w : World) (hl : Brief (ps ++ [(b, l)])) (h : RdS w v ps) (hlen : ps.length ≤ 1048576) :
    Calls Try.prog 18 #[.int .i64 p, v, .int .i64 b, .string (tx l)] w fun e w' => e = .returned (.bool (canI p ps (b, l))) ∧ Below w.heap.size w w' := by
  have HT := Lib.hid (cloneS_any v ps w h hlen)
  have HW := Lib.hid (fun v' W (hr : RdS W v' (ps ++ [(b, l)])) => implWaysOf_any p v' _ W hl hr)
  have HC : Hid (canI p ps (b, l) = (decide (ps.length < 6) && decide (0 < (waysI p (ps ++ [(b, l)])).length))) := rfl
  obtain ⟨a1, c1, rfl, l1, m1, -⟩ := h
  obtain ⟨i0, hi, hz0, hz1, hz2⟩ := info_parts infoSay
  clear hl
  by_cases h6 : ps.length < 6
  · have HC2 : Hid (canI p ps (b, l) = decide (0 < (waysI p (ps ++ [(b, l)])).length)) := by unfold Hid; rw [HC.out, decide_eq_true h6]; rfl
    have h6' : ¬ (6 : Int) ≤ (ps.length : Int) := by omega
    generalize hS : tx l = S at *
    go_enter Try.func18, Try.ntmps18
    go_wp2_with fail
    with_reducible refine HT.out.mono ?_
    rintro e w1 ⟨v1, rfl, ho, hb⟩
    have hho := ho.1
    have s1 := hb.size
    go_wp2_with (first | (at_builtin; go_loud (refine wpList_append_own _ rfl _ _ 26 rfl w.heap.size 45 i0 (.agg #[.int .i64 0, .string ⟨#[]⟩]) 2 24 Try.underlying26 hi hz0 hz1 hz2 rfl (by decide) _ _ _ rfl (hho.alloc _) ⟨w1.heap.size, 0, none⟩ 1 1 [.int .i64 b, .string S] rfl rfl (two_new _ _ _ _) (two_cell _ _) ?c2 ?c3 ?c4 ?_)) | fail)
    case c2 => unfold maxLen; omega
    case c3 => omega
    case c4 => first | (simp; omega) | omega
    intro v' w2 hown' hgr _
    have hrel := say_app (p := (b, l)) ho hb (Nat.le_refl _) s1 (by show World.ownsRow _ _ _ _ _ _ (_ ++ [_, .string (tx l)]); rw [hS]; exact hown') hgr
    have HA := Lib.hid (HW.out v' w2 hrel.1.rd)
    have HB2 := Lib.hid hrel.2.1
    have hs2 := hrel.2.2
    clear hrel hown' hgr hho ho hb hz0 hz1 hz2 hi
    go_wp2_with fail
    with_reducible refine HA.out.mono ?_
    rintro e w3 ⟨v3, rfl, ho3, hb3⟩
    obtain ⟨a3, c3, rfl, -, -, -⟩ := ho3.rd
    have HB3 := Lib.hid (HB2.out.trans (hb3.mono hs2))
    clear ho3 hb3
    generalize waysI p (ps ++ [(b, l)]) = ws at *
    go_wp2
    go_ret
    exact ⟨ret_bool (by rw [HC2.out]), HB3.out⟩
  · have HC2 : Hid (canI p ps (b, l) = false) := by unfold Hid; rw [HC.out, decide_eq_false h6]; rfl
    have h6' : (6 : Int) ≤ (ps.length : Int) := by omega
    clear hz0 hz1 hz2 hi
    generalize hS : tx l = S at *
    go_enter Try.func18, Try.ntmps18
    go_wp2
    go_ret
    exact ⟨ret_bool HC2.out.symm, Below.refl _ _⟩

theorem two_new2 (w : World) (cs : Array Value) (t1 : TypeId) (x y : Value) (t : TypeId) : ∀ j u, [x, y][j]? = some u → ((w.alloc (.cells cs t1)).alloc (.cells #[x, y] t)).cell? ((⟨w.heap.size + 1, 0, none⟩ : Addr).add j) = some u := by
  have h := two_new (w.alloc (.cells cs t1)) x y t
  rwa [World.size_alloc] at h
/-- Nothing appended to an empty slice. -/
theorem run_append_none (w : World) (ty : TypeId) (g c : Nat) : (Builtin.append_ #[26, 26] ty #[.slice (some ⟨g, 0, none⟩) 0 0, .slice none 0 c]).run Try.prog w = .ok (.slice (some ⟨g, 0, none⟩) 0 0) w := by
  obtain ⟨i0, hi, hz0, hz1, hz2⟩ := info_parts infoSay
  simp [Builtin.append_, run_underlying Try.underlying26, sizeOf, typeInfo, hi, Builtin.lenOf, run_firstCells_none, storeCells]

theorem sayB_more {p : Int} {ps : List Sy} {q : Sy} (h : sayB p ps = false) : sayB p (ps ++ [q]) = false := by
  cases hs : sayB p (ps ++ [q]) with
  | false => rfl
  | true =>
    obtain ⟨h1, h2, h3⟩ := sayB_yes hs
    rw [List.length_append] at h2
    have : sayB p ps = true := by
      unfold sayB
      rw [inB_true h1.1 h1.2, decide_eq_true (by omega), List.all_eq_true.2 fun x hx => h3 x (by simp [hx])]; rfl
    rw [h] at this; cases this

set_option maxHeartbeats 3200000 in
set_option maxRecDepth 100000 in
theorem specCanSay_any (p : Int) (v : Value) (ps : List Sy) (b : Int) (l : List UInt8) (w : World) (hl : Brief (ps ++ [(b, l)])) (h : RdS w v ps) :
    Calls Try.prog 17 #[.int .i64 p, v, .int .i64 b, .string (tx l)] w fun e w' => e = .returned (.bool (canI p ps (b, l))) ∧ Below w.heap.size w w' := by
  have HT := Lib.hid (specSayingsOk_any p v ps w (fun q hq => hl q (by simp [hq])) h)
  have HW := Lib.hid (fun v' W (hr : RdS W v' (ps ++ [(b, l)])) => specWaysOf_any p v' _ W hl hr)
  have HC : Hid (canI p ps (b, l) = (decide (ps.length < 6) && decide (0 < (waysI p (ps ++ [(b, l)])).length))) := rfl
  have HR := Lib.hid h
  obtain ⟨a1, c1, rfl, l1, m1, r1⟩ := h
  clear hl
  rcases Bool.eq_false_or_eq_true (sayB p ps) with hs | hs
  · have HS := Lib.hid hs
    by_cases h6 : ps.length < 6
    · have HC2 : Hid (canI p ps (b, l) = decide (0 < (waysI p (ps ++ [(b, l)])).length)) := by unfold Hid; rw [HC.out, decide_eq_true h6]; rfl
      have h6' : decide ((6 : Int) ≤ (ps.length : Int)) = false := by simp; omega
      have h6'' : decide (6 ≤ ps.length) = false := by simp; omega
      obtain ⟨i0, hi, hz0, hz1, hz2⟩ := info_parts infoSay
      generalize hS : tx l = S at *
      clear hs
      go_enter Try.func17, Try.ntmps17
      go_wp2_with fail
      with_reducible refine HT.out.mono ?_
      rintro e w' ⟨rfl, m, rfl⟩
      rw [HS.out]
      have hb1 : Below w.heap.size w (w.drewN m) := below_drewN (Below.refl _ _) _
      have hR1 : RdS (w.drewN m) (.slice a1 ps.length c1) ps := HR.out
      have hs1 : w.heap.size ≤ (w.drewN m).heap.size := Nat.le_refl _
      generalize w.drewN m = w1 at *
      have ho0 := ownS_lit w1
      have hb0 : ∀ o, Below w1.heap.size w1 (w1.alloc o) := fun o => (Below.refl _ _).alloc (Nat.le_refl _) o
      cases a1 with
      | none =>
        have h0 : ps = [] := by
          refine List.length_eq_zero_iff.1 (Classical.byContradiction fun hn => ?_)
          obtain ⟨g, off, e, -⟩ := r1 (by omega)
          cases e
        have ho : OwnS (w1.alloc (.cells #[] 45)) w.heap.size (w1.alloc (.cells #[] 45)).heap.size (.slice (some ⟨w1.heap.size, 0, none⟩) 0 0) ps := by
          rw [h0]; exact (ownS_lit w1).wide (by omega) (by simp)
        have hb : Below w.heap.size w (w1.alloc (.cells #[] 45)) := hb1.trans ((hb0 _).mono (by omega))
        have hl0 : ps.length = 0 := by rw [h0]; rfl
        have hrun := fun W ty => run_append_none W ty w1.heap.size c1
        rw [hl0]
        clear r1 h0 ho0 hb0
        have s1 : w.heap.size ≤ (w1.alloc (.cells #[] 45)).heap.size := hb.size
        have hho : (w1.alloc (.cells #[] 45)).ownsRow w.heap.size 45 2 (.slice (some ⟨w1.heap.size, 0, none⟩) 0 0) 0 (cellsS ps) := by have := ho.1; rwa [hl0] at this
        go_wp2_with (first | (at_builtin; (refine Lib.wpList_append_run (v' := .slice (some ⟨w1.heap.size, 0, none⟩) 0 0) (w' := w1.alloc (.cells #[] 45)) _ rfl _ _ 26 26 rfl (.slice (some ⟨w1.heap.size, 0, none⟩) 0 0) (.slice none 0 c1) rfl rfl (by exact hrun _ _) ?_)) | (at_builtin; go_loud (refine wpList_append_own _ rfl _ _ 26 rfl w.heap.size 45 i0 (.agg #[.int .i64 0, .string ⟨#[]⟩]) 2 24 Try.underlying26 hi hz0 hz1 hz2 rfl (by decide) (.slice (some ⟨w1.heap.size, 0, none⟩) 0 0) 0 (cellsS ps) rfl (hho.alloc _) ⟨w1.heap.size + 1, 0, none⟩ 1 1 [.int .i64 b, .string S] rfl rfl (two_new2 _ _ _ _ _ _) (two_cell _ _) ?d2 ?d3 ?d4 ?_)) | fail)
        case d2 => unfold maxLen; omega
        case d3 => omega
        case d4 => first | (simp; omega) | omega
        intro v' w3 hown' hgr _
        have hrel := say_app (p := (b, l)) ho hb (Nat.le_refl _) s1 (by show World.ownsRow _ _ _ _ _ _ (_ ++ [_, .string (tx l)]); rw [hS, hl0]; exact hown') hgr
        have HA := Lib.hid (HW.out v' w3 hrel.1.rd)
        have HB2 := Lib.hid hrel.2.1
        have hs2 := hrel.2.2
        clear hrel hown' hgr hho ho hb hz0 hz1 hz2 hi
        go_wp2_with fail
        with_reducible refine HA.out.mono ?_
        rintro e w4 ⟨v3, rfl, ho3, hb3⟩
        obtain ⟨a3, c3, rfl, -, -, -⟩ := ho3.rd
        have HB3 := Lib.hid (HB2.out.trans (hb3.mono hs2))
        clear ho3 hb3
        generalize waysI p (ps ++ [(b, l)]) = ws at *
        go_wp2
        go_ret
        exact ⟨ret_bool (by rw [HC2.out]), HB3.out⟩
      | some ad =>
        have hcs := rdS_cells (hR1.below (hb0 (.cells #[] 45)) (Nat.le_refl _))
        have ho00 := ho0.1
        go_wp2_with (first | (at_builtin; go_loud (refine wpList_append_own _ rfl _ _ 26 rfl w1.heap.size 45 i0 (.agg #[.int .i64 0, .string ⟨#[]⟩]) 2 24 Try.underlying26 hi hz0 hz1 hz2 rfl (by decide) _ 0 [] rfl ho00 ad ps.length c1 (cellsS ps) rfl ?n0 ?n1 ?n2 ?c1 ?c2 ?c3 ?_)) | fail)
        case n0 => exact length_cellsS ps
        case n1 => exact hcs
        case n2 => exact cellsS_one ps
        case c1 => unfold maxLen; omega
        case c2 => omega
        case c3 => simp
        intro v1 W2 hown hgr _
        have hbW : Below w1.heap.size w1 W2 := by
          refine (hb0 (.cells #[] 45)).grown hgr (by simp) (fun k hk => ?_)
          have : w1.heap.size = k := by injection hk
          omega
        have ho : OwnS W2 w.heap.size W2.heap.size v1 ps := (OwnS.new (ps := ps) (lo := w1.heap.size) (by simpa using hown) (Nat.le_refl _)).wide (by omega) (Nat.le_refl _)
        have hb : Below w.heap.size w W2 := hb1.trans (hbW.mono (by omega))
        have s1 : w.heap.size ≤ W2.heap.size := hb.size
        clear hown hgr ho0 hb0 r1 hcs ho00 hbW
        have hho := ho.1
        go_wp2_with (first | (at_builtin; go_loud (refine wpList_append_own _ rfl _ _ 26 rfl w.heap.size 45 i0 (.agg #[.int .i64 0, .string ⟨#[]⟩]) 2 24 Try.underlying26 hi hz0 hz1 hz2 rfl (by decide) _ _ _ rfl (hho.alloc _) ⟨W2.heap.size, 0, none⟩ 1 1 [.int .i64 b, .string S] rfl rfl (two_new _ _ _ _) (two_cell _ _) ?d2 ?d3 ?d4 ?_)) | fail)
        case d2 => unfold maxLen; omega
        case d3 => omega
        case d4 => first | (simp; omega) | omega
        intro v' w3 hown' hgr _
        have hrel := say_app (p := (b, l)) ho hb (Nat.le_refl _) s1 (by show World.ownsRow _ _ _ _ _ _ (_ ++ [_, .string (tx l)]); rw [hS]; exact hown') hgr
        have HA := Lib.hid (HW.out v' w3 hrel.1.rd)
        have HB2 := Lib.hid hrel.2.1
        have hs2 := hrel.2.2
        clear hrel hown' hgr hho ho hb hz0 hz1 hz2 hi
        go_wp2_with fail
        with_reducible refine HA.out.mono ?_
        rintro e w4 ⟨v3, rfl, ho3, hb3⟩
        obtain ⟨a3, c3, rfl, -, -, -⟩ := ho3.rd
        have HB3 := Lib.hid (HB2.out.trans (hb3.mono hs2))
        clear ho3 hb3
        generalize waysI p (ps ++ [(b, l)]) = ws at *
        go_wp2
        go_ret
        exact ⟨ret_bool (by rw [HC2.out]), HB3.out⟩
    · have HC2 : Hid (canI p ps (b, l) = false) := by unfold Hid; rw [HC.out, decide_eq_false h6]; rfl
      have h6' : (6 : Int) ≤ (ps.length : Int) := by omega
      clear hs r1
      generalize hS : tx l = S at *
      go_enter Try.func17, Try.ntmps17
      go_wp2_with fail
      with_reducible refine HT.out.mono ?_
      rintro e w' ⟨rfl, m, rfl⟩
      rw [HS.out]
      go_wp2
      go_ret
      exact ⟨ret_bool HC2.out.symm, below_drewN (Below.refl _ _) _⟩
  · have HS := Lib.hid hs
    have HC2 : Hid (canI p ps (b, l) = false) := by
      unfold Hid
      rw [HC.out]
      have : waysI p (ps ++ [(b, l)]) = [] := by unfold waysI; rw [sayB_more hs]; rfl
      rw [this]; simp
    clear hs r1
    generalize hS : tx l = S at *
    go_enter Try.func17, Try.ntmps17
    go_wp2_with fail
    with_reducible refine HT.out.mono ?_
    rintro e w' ⟨rfl, m, rfl⟩
    rw [HS.out]
    go_wp2
    go_ret
    exact ⟨ret_bool HC2.out.symm, below_drewN (Below.refl _ _) _⟩
end Go.Proofs.Ytajelgheccfcoaa

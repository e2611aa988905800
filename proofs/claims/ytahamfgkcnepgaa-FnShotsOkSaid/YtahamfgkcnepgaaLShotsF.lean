/- The walk of the law on ShotsOk. -/
import Derived.Test.YtahamfgkcnepgaaShots
import Derived.Test.YtahamfgkcnepgaaDrawSt
import Derived.Test.YtahamfgkcnepgaaAlive
import Derived.Deep.AppendLies
namespace Go.Proofs.Ytahamfgkcnepgaa
open Go.RowKit

set_option maxRecDepth 100000 in
theorem DrawShotsOk_any (a : Option Addr) (len cap : Nat) (bs : List Int) (w : World) (h : IsRowB .u8 w a len cap bs) :
    Calls Try.prog 49 #[.slice a len cap] w fun e w' => (∃ r c v zss, e = .returned (.tuple #[.int .i64 r, .int .i64 c, v]) ∧ (0 ≤ r ∧ r ≤ 7) ∧ (0 ≤ c ∧ c ≤ 6) ∧ RdR w' v zss ∧ zss.length ≤ 6 ∧ ∀ zs ∈ zss, zs.length ≤ 6 ∧ ∀ z ∈ zs, 0 ≤ z ∧ z ≤ 1) ∧ Below w.heap.size w w' := by
  go_enter Try.func49, Try.ntmps49
  go_wp2_with fail
  refine (open_any _ _ _ bs _ h).mono ?_
  rintro e w1 ⟨⟨g, rfl, hg1, hg2, hr⟩, b1⟩
  go_wp2_with fail
  refine (shots_any g 0 4 _ hr (by omega)).mono ?_
  rintro e w2 ⟨⟨r, c, l, v, zss, rfl, h1, h2, h3, h4, h5, h6⟩, -, t2⟩
  have hb := below_turned b1 t2 hg1 b1.size
  clear t2 b1 hr
  go_wp2
  go_ret3
  exact ⟨⟨_, _, _, _, rfl, h1, h2, h4, h5, h6⟩, hb⟩

/-- Each number turned into x. -/
def fillR (x : Int) (zss : List (List Int)) : List (List Int) := zss.map fun zs => List.replicate zs.length x
theorem fillR_snoc (x : Int) (zss : List (List Int)) (k : Nat) (h : k < zss.length) : fillR x (zss.take (k + 1)) = fillR x (zss.take k) ++ [List.replicate (zss.getD k []).length x] := by
  unfold fillR; rw [takeR_snoc zss k h, List.map_append]; rfl
theorem length_fillR (x : Int) (zss : List (List Int)) : (fillR x zss).length = zss.length := by simp [fillR]
theorem shotsB_fill {rows cols : Int} {zss : List (List Int)} (x : Int) (hx : 0 ≤ x ∧ x ≤ 1) (h : shotsB rows cols zss = true) : shotsB rows cols (fillR x zss) = true := by
  simp only [shotsB, rowOk, inB, allB, Bool.and_eq_true, decide_eq_true_eq, List.all_eq_true] at h ⊢
  obtain ⟨h1, h2, h3, h4⟩ := h
  refine ⟨h1, h2, by rw [length_fillR]; exact h3, fun zs hz => ?_⟩
  obtain ⟨ys, hy, rfl⟩ := List.mem_map.1 hz
  refine ⟨by simpa using (h4 ys hy).1, fun z hz => ?_⟩
  have := List.eq_of_mem_replicate hz
  omega

/-- Two lists of rows of the call's own; their own blocks are two. -/
structure TwoR (lo : Nat) (v1 v2 : Value) (us1 us2 : List Value) (z1 z2 : List (List Int)) (W : World) : Prop where
  o1 : OwnR W lo W.heap.size v1 us1 z1
  o2 : OwnR W lo W.heap.size v2 us2 z2
  ne : ∀ k, v1.ownBlock = some k → v2.ownBlock ≠ some k
  le : lo ≤ W.heap.size

theorem TwoR.swap {lo : Nat} {v1 v2 : Value} {us1 us2 : List Value} {z1 z2 : List (List Int)} {W : World} (h : TwoR lo v1 v2 us1 us2 z1 z2 W) : TwoR lo v2 v1 us2 us1 z2 z1 W :=
  ⟨h.o2, h.o1, fun k h1 h2 => h.ne k h2 h1, h.le⟩
theorem TwoR.below {lo : Nat} {v1 v2 : Value} {us1 us2 : List Value} {z1 z2 : List (List Int)} {W W' : World} (h : TwoR lo v1 v2 us1 us2 z1 z2 W) (hb : Below W.heap.size W W') : TwoR lo v1 v2 us1 us2 z1 z2 W' :=
  ⟨(h.o1.below hb (Nat.le_refl _)).wide (Nat.le_refl _) hb.size, (h.o2.below hb (Nat.le_refl _)).wide (Nat.le_refl _) hb.size, h.ne, Nat.le_trans h.le hb.size⟩

theorem TwoR.app {lo cap g n : Nat} {v1 v2 u : Value} {us1 us2 : List Value} {z1 z2 : List (List Int)} {zs : List Int} {wr W w' : World} (h : TwoR lo v1 v2 us1 us2 z1 z2 wr) (hb : Below wr.heap.size wr W) (hu : Own W wr.heap.size W.heap.size u zs) (hn : z1.length = n)
    (hown : w'.ownsRow lo 49 1 (.slice (some ⟨g, 0, none⟩) (n + 1) cap) (n + 1) (us1 ++ [u])) (hgr : W.grownBy w' v1.ownBlock) (hor : v1.ownBlock = some g ∨ g = W.heap.size) :
    TwoR lo (.slice (some ⟨g, 0, none⟩) (n + 1) cap) v2 (us1 ++ [u]) us2 (z1 ++ [zs]) z2 w' := by
  subst hn
  obtain ⟨o1, o2, ne, le⟩ := h
  obtain ⟨ot, otb⟩ := own_tight hu
  have s1 := hb.size
  have s2 := hgr.size
  have hk : ∀ k, k < wr.heap.size → v1.ownBlock ≠ some k → w'.heap[k]? = wr.heap[k]? := fun k hk hne => (hgr.block k (by omega) (fun e => hne e.symm)).trans (hb.block k hk)
  refine ⟨o1.snoc (Nat.le_refl _) hb ot otb hown hgr le rfl, ?_, fun k h1 h2 => ?_, by omega⟩
  · refine OwnR.wide (hi := wr.heap.size) ⟨outer_keep o2.outer fun k hk2 => hk k (o2.outer.lt k hk2).2 fun e => ne k e hk2, o2.outb, fun j hj => ⟨tight_keep (o2.inner j hj).1 fun k hk2 => hk k ((o2.inner j hj).2 k hk2).2 fun e => ?_, (o2.inner j hj).2⟩, o2.apart⟩ (Nat.le_refl _) (by omega)
    obtain ⟨c1, e1⟩ := own_int (o2.inner j hj).1 hk2
    obtain ⟨c2, e2⟩ := owns_row o1.outer e
    rw [e1] at e2
    injection e2 with e2
    injection e2 with e3 e4
    exact absurd e4 (by decide)
  · have e : g = k := by injection h1
    subst e
    rcases hor with h | h
    · exact ne g h h2
    · have := (o2.outer.lt g h2).2; omega

set_option maxHeartbeats 3200000 in
set_option maxRecDepth 100000 in
theorem walk_FnShotsOk (a0 : Option Addr) (len0 cap0 : Nat) (z0 : List Int) (w : World) (w0 : IsRowB .u8 w a0 len0 cap0 z0) :
    Calls Try.prog 13 #[.slice a0 len0 cap0] w fun e w' => e = .returned (.bool true) ∧ Below w.heap.size w w' := by
  by_cases hlen : 1048576 < len0
  · go_enter Try.func13, Try.ntmps13
    go_wp2
    go_ret
    exact ⟨rfl, Below.refl _ _⟩
  · obtain ⟨i0, hi, hz0, hz1, hz2⟩ := info_parts infoRow
    obtain ⟨j0, hj, hy0, hy1, hy2⟩ := info_parts infoInt
    go_enter Try.func13, Try.ntmps13
    go_wp2_with fail
    refine (DrawShotsOk_any _ _ _ _ _ w0).mono ?_
    rintro e w1 ⟨⟨r, c, v, zss, rfl, hr, hc, hR, hz6, hbits⟩, b1⟩
    clear w0
    go_wp2_with fail
    refine (implShotsOk_any r c v zss _ hR).mono ?_
    rintro e w2 ⟨rfl, b2⟩
    have hR2 := hR.below b2
    have bb := b1.trans (b2.mono b1.size)
    clear b1 b2 hR
    obtain ⟨ok, hok⟩ : ∃ b, b = shotsB r c zss := ⟨_, rfl⟩
    rw [← hok]
    have HOK := Lib.hid hok
    clear hok
    go_wp2_with fail
    refine (specShotsOk_any r c v zss _ hR2).mono ?_
    rintro e w3 ⟨rfl, rfl⟩
    rw [← HOK.out]
    have HRD := Lib.hid hR2
    have hl6 : ∀ k, k < zss.length → (zss.getD k []).length ≤ 6 := fun k hk => (hbits _ (by simp [List.getD, List.getElem?_eq_getElem hk])).1
    have HL6 := Lib.hid hl6
    have HBB := Lib.hid bb
    have hsw := bb.size
    have hst : TwoR w3.heap.size (.slice (some ⟨w3.heap.size, 0, none⟩) 0 0) (.slice (some ⟨w3.heap.size + 1, 0, none⟩) 0 0) [] [] [] [] ((w3.alloc (.cells #[] 49)).alloc (.cells #[] 49)) := by
      have b0 : Below (w3.alloc (.cells #[] 49)).heap.size (w3.alloc (.cells #[] 49)) ((w3.alloc (.cells #[] 49)).alloc (.cells #[] 49)) := (Below.refl _ _).alloc (Nat.le_refl _) _
      have e2 := ownR_lit (w3.alloc (.cells #[] 49))
      rw [World.size_alloc] at e2
      refine ⟨((ownR_lit w3).below b0 (by simp)).wide (Nat.le_refl _) (by simp), e2.wide (by omega) (by simp), fun k h1 h2 => ?_, by simp only [World.size_alloc]; omega⟩
      have e3 : w3.heap.size = k := by injection h1
      have e4 : w3.heap.size + 1 = k := by injection h2
      omega
    have hbs : Below w3.heap.size w3 ((w3.alloc (.cells #[] 49)).alloc (.cells #[] 49)) := ((Below.refl _ _).alloc (Nat.le_refl _) _).alloc (by simp) _
    have HST := Lib.hid hst; have HBS := Lib.hid hbs
    obtain ⟨a, cp, rfl, l1, m1, -⟩ := hR2
    clear bb hst hbs hl6 hbits
    have hnotb : ∀ b : Bool, (b != b) = false := fun b => by cases b <;> rfl
    go_wp2_with fail
    go_loopw [7, 8, 9] (fun v1 v2 i wr => ∃ (k : Nat) (us1 us2 : List Value), k ≤ zss.length ∧ i = .int .i64 k ∧ TwoR w3.heap.size v1 v2 us1 us2 (fillR 0 (zss.take k)) (fillR 1 (zss.take k)) wr ∧ Below w3.heap.size w3 wr) (fun _ _ i _ => zss.length - (intOf i).toNat)
    case atStart => exact ⟨0, [], [], Nat.zero_le _, rfl, by simpa [fillR] using HST.out, HBS.out⟩
    case round =>
      clear HST HBS
      obtain ⟨k, us1, us2, hk, rfl, ht, hbr⟩ := hrel
      rename World => wo
      by_cases hlt : k < zss.length
      · obtain ⟨a2, c2, e9, l2, m2, r2⟩ := HRD.out
        injection e9 with e1 e2 e3
        subst e1 e3
        obtain ⟨g1, o1, A1, d1, zs, rfl, hg1, x0, y1, Z1⟩ := rdR_at r2 k hlt
        have x1 := (hbr.cell (p := ⟨g1, o1 + k, none⟩) hg1).trans x0
        have X0 := Lib.hid x0
        clear x0
        have hz6' := HL6.out k hlt
        rw [← Z1.out] at hz6'
        have hs0 := fillR_snoc 0 zss k hlt
        have hs1 := fillR_snoc 1 zss k hlt
        rw [← Z1.out] at hs0 hs1
        have hl0 : (fillR 0 (zss.take k)).length = k := by rw [length_fillR, List.length_take]; omega
        have hl1 : (fillR 1 (zss.take k)).length = k := by rw [length_fillR, List.length_take]; omega
        have HS := Lib.hid (And.intro hs0 (And.intro hs1 (And.intro hl0 hl1)))
        clear hs0 hs1 r2 l2 m2 e2
        go_wp2_with (at_make; refine wpList_make_full _ rfl _ _ 49 rfl wo.heap.size 3 j0 (.int .i64 0) 1 Try.underlying49 hj hy0 hy1 _ _ _ _ zs.length rfl rfl rfl rfl ?c1 ?c2 ?c3 ?_)
        case c1 => rw [hy2]; omega
        case c2 => unfold maxLen; omega
        case c3 => exact Nat.le_refl _
        intro w4 hown4 hgr4
        have e4 : (madeCells #[Value.int .i64 0] zs.length).toList = (List.replicate zs.length (0 : Int)).map (Value.int .i64) := (toList_madeCells_one _ _).trans (by simp)
        rw [e4] at hown4
        have b4 : Below wo.heap.size wo w4 := (Below.refl _ _).grown hgr4 (Nat.le_refl _) (fun k hk => by cases hk)
        have hu4 : Own w4 wo.heap.size w4.heap.size (.slice (some ⟨wo.heap.size, 0, none⟩) zs.length zs.length) (List.replicate zs.length 0) := Own.new (by simpa using hown4) (Nat.le_refl _)
        have ht4 := ht.below b4
        have E4 := Lib.hid e4
        have hown1 := ht4.o1
        have hlo4 := ht4.le
        clear e4 hown4 hgr4
        go_wp2_with (first | (at_builtin; go_loud (refine wpList_append_lies _ rfl _ _ 24 rfl w3.heap.size 49 i0 (.slice none 0 0) 1 24 Try.underlying24 hi hz0 hz1 hz2 rfl (by decide) _ _ _ rfl (hown1.outer.alloc _) ⟨w4.heap.size, 0, none⟩ 1 1 [.slice (some ⟨wo.heap.size, 0, none⟩) zs.length zs.length] rfl rfl (one_new _ _ _) (one_cellV _ rfl) (by decide) ?c2 ?c3 ?c4 (w4.heap.size + 1) ?c5 ?_)) | go_in)
        case c2 => unfold maxLen; omega
        case c3 => omega
        case c4 => simp; omega
        case c5 => simp
        intro g5 cap5 w5 hown5 hgr5 hor5 hlt5
        have ba4 : Below w4.heap.size w4 (w4.alloc (.cells #[.slice (some ⟨wo.heap.size, 0, none⟩) zs.length zs.length] 49)) := (Below.refl _ _).alloc (Nat.le_refl _) _
        have bW : Below wo.heap.size wo (w4.alloc (.cells #[.slice (some ⟨wo.heap.size, 0, none⟩) zs.length zs.length] 49)) := b4.trans (ba4.mono b4.size)
        have uW : Own (w4.alloc (.cells #[.slice (some ⟨wo.heap.size, 0, none⟩) zs.length zs.length] 49)) wo.heap.size (w4.alloc (.cells #[.slice (some ⟨wo.heap.size, 0, none⟩) zs.length zs.length] 49)).heap.size (.slice (some ⟨wo.heap.size, 0, none⟩) zs.length zs.length) (List.replicate zs.length 0) := (hu4.below ba4 (Nat.le_refl _)).wide (Nat.le_refl _) ba4.size
        have t5 := ht.app bW uW HS.out.2.2.1 hown5 hgr5 (by rw [World.size_alloc]; exact hor5)
        have b5 : Below w3.heap.size w3 w5 := (hbr.trans (bW.mono hbr.size)).grown hgr5 (Nat.le_trans hbr.size bW.size) (fun q hq => (ht.o1.outer.lt q hq).1)
        have T5 := Lib.hid t5; have B5 := Lib.hid b5
        have x5 := (b5.cell (p := ⟨g1, o1 + k, none⟩) hg1).trans X0.out
        have hs5 : w3.heap.size ≤ w5.heap.size := b5.size
        clear t5 b5 bW uW hown5 hgr5 hor5 ht ht4 hu4 b4 ba4 hown1 hlo4 x1 hbr
        go_wp2_with fail
        go_loopw [10, 11] (fun v i wr => ∃ j : Nat, j ≤ zs.length ∧ i = .int .i64 j ∧ wr.ownsRow w5.heap.size 3 1 v (List.replicate j (1 : Int)).length ((List.replicate j (1 : Int)).map (Value.int .i64)) ∧ Below w5.heap.size w5 wr ∧ w5.heap.size ≤ wr.heap.size) (fun _ i _ => zs.length - (intOf i).toNat)
        case atStart => exact ⟨0, by omega, rfl, World.ownsRow_lit w5 #[] 0 (Nat.le_refl _) (by simp) (by simp), (Below.refl _ _).alloc (Nat.le_refl _) _, by simp⟩
        case round =>
          obtain ⟨j, hj2, rfl, hown, hb, hsz⟩ := hrel
          have x6 := (hb.cell (p := ⟨g1, o1 + k, none⟩) (by show g1 < _; omega)).trans x5
          clear x5
          by_cases hjl : j < zs.length
          · have hlen : (List.replicate j (1 : Int)).length = j := by simp
            have HLN := Lib.hid hlen
            go_wp2_with (first | (at_builtin; go_loud (refine wpList_append_own _ rfl _ _ 49 rfl w5.heap.size 3 j0 (.int .i64 0) 1 8 Try.underlying49 hj hy0 hy1 hy2 rfl (by decide) _ _ _ rfl (hown.alloc _) ⟨wr.heap.size, 0, none⟩ 1 1 [.int .i64 1] rfl rfl (one_new _ _ _) ?c2 ?c3 ?c4 ?c5 ?_)) | go_in)
            case c2 => exact one_cell _ _
            case c3 => unfold maxLen; simp; omega
            case c4 => simp; omega
            case c5 => simp; omega
            intro v' w6 hown' hgr _
            have hrel := app_rel (z := 1) hown hb (Nat.le_refl _) hsz (by simpa using hown') hgr
            have e7 : List.replicate j (1 : Int) ++ [1] = List.replicate (j + 1) 1 := by rw [List.replicate_succ']
            rw [e7] at hrel
            have HR := Lib.hid hrel
            clear hrel e7 hown hown' hgr hb hz0 hz1 hz2 hi hj hy0 hy1 hy2 hlen
            go_wp2
            go_roundw
            case rel => exact ⟨j + 1, by omega, by go_num, HR.out.1, HR.out.2.1, HR.out.2.2⟩
            case measure => simp [intOf]; omega
          · have hj' : j = zs.length := by omega
            subst hj'
            have hu : Own wr w5.heap.size wr.heap.size _ (List.replicate zs.length 1) := Own.new hown (Nat.le_refl _)
            obtain ⟨A3, n3, e10⟩ := own_sl hu
            rw [List.length_replicate] at e10
            subst e10
            have ht6 := (T5.out.below hb).o2
            have hlo6 := (T5.out.below hb).le
            have HU := Lib.hid hu
            have HBI := Lib.hid hb
            clear hown hu hb
            go_wp2_with (first | (at_builtin; go_loud (refine wpList_append_lies _ rfl _ _ 24 rfl w3.heap.size 49 i0 (.slice none 0 0) 1 24 Try.underlying24 hi hz0 hz1 hz2 rfl (by decide) _ _ _ rfl (ht6.outer.alloc _) ⟨wr.heap.size, 0, none⟩ 1 1 [.slice A3 zs.length n3] rfl rfl (one_new _ _ _) (one_cellV _ rfl) (by decide) ?c2 ?c3 ?c4 (wr.heap.size + 1) ?c5 ?_)) | go_in)
            case c2 => unfold maxLen; have := HS.out.2.2.2; omega
            case c3 => have := HS.out.2.2.2; omega
            case c4 => simp; omega
            case c5 => simp
            intro g7 cap7 w7 hown7 hgr7 hor7 hlt7
            have ba6 : Below wr.heap.size wr (wr.alloc (.cells #[.slice A3 zs.length n3] 49)) := (Below.refl _ _).alloc (Nat.le_refl _) _
            have bW : Below w5.heap.size w5 (wr.alloc (.cells #[.slice A3 zs.length n3] 49)) := HBI.out.trans (ba6.mono hsz)
            have uW : Own (wr.alloc (.cells #[.slice A3 zs.length n3] 49)) w5.heap.size (wr.alloc (.cells #[.slice A3 zs.length n3] 49)).heap.size (.slice A3 zs.length n3) (List.replicate zs.length 1) := (HU.out.below ba6 (Nat.le_refl _)).wide (Nat.le_refl _) ba6.size
            have t7 := (T5.out.swap.app bW uW HS.out.2.2.2 hown7 hgr7 (by rw [World.size_alloc]; exact hor7)).swap
            rw [← HS.out.1, ← HS.out.2.1] at t7
            have b7 : Below w3.heap.size w3 w7 := (B5.out.trans (bW.mono hs5)).grown hgr7 (Nat.le_trans hs5 bW.size) (fun q hq => (T5.out.o2.outer.lt q hq).1)
            have T7 := Lib.hid t7; have B7 := Lib.hid b7
            clear t7 b7 bW uW hown7 hgr7 hor7 ht6 ba6 hlo6
            go_wp2
            go_roundw
            case rel => exact ⟨k + 1, _, _, by omega, by go_num, T7.out, B7.out⟩
            case measure => simp [intOf]; omega
      · have hk' : k = zss.length := by omega
        subst hk'
        rw [List.take_length] at ht
        have r7 := ht.o1.rd
        have r8 := ht.o2.rd
        have HB := Lib.hid (HBB.out.trans (hbr.mono hsw))
        have hsz9 : w.heap.size ≤ wo.heap.size := Nat.le_trans hsw hbr.size
        clear ht hbr
        rcases ok with _ | _
        · go_wp2_with fail
          refine (alive_true _).mono ?_
          rintro e w8 ⟨rfl, rfl⟩
          go_wp2
          go_ret
          exact ⟨rfl, HB.out⟩
        · have h0 := shotsB_fill 0 (by omega) HOK.out.symm
          have h1 := shotsB_fill 1 (by omega) HOK.out.symm
          have H0 := Lib.hid h0; have H1 := Lib.hid h1
          clear h0 h1
          go_wp2_with fail
          refine (implShotsOk_any r c _ _ _ r7).mono ?_
          rintro e w8 ⟨rfl, b8⟩
          rw [H0.out]
          have r82 := r8.below b8
          have HB8 := Lib.hid (HB.out.trans (b8.mono hsz9))
          clear b8 r7 r8
          go_wp2_with fail
          refine (implShotsOk_any r c _ _ _ r82).mono ?_
          rintro e w9 ⟨rfl, b9⟩
          rw [H1.out]
          have HB9 := Lib.hid (HB8.out.trans (b9.mono HB8.out.size))
          clear b9 r82
          go_wp2_with fail
          refine (alive_true _).mono ?_
          rintro e w10 ⟨rfl, rfl⟩
          go_wp2
          go_ret
          exact ⟨rfl, HB9.out⟩
end Go.Proofs.Ytahamfgkcnepgaa

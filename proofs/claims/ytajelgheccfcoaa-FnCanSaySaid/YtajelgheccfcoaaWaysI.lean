/- All ways, at the implementation. -/
import Derived.Test.YtajelgheccfcoaaWaysP
import Derived.Deep.RegionWith
namespace Go.Proofs.Ytajelgheccfcoaa
open Go.RowKit

theorem infoClaim : (Try.prog.info? 56).map (fun i => (i.zero, i.size, i.bytes)) = some (some .nilFunc, 1, 8) := by kernel_rfl

/-- The claims of the first k sayings lie in the row. -/
def Claims (p : Int) (ps : List Sy) (g k : Nat) (us : List Value) (W : World) : Prop :=
  ∀ j, j < k → ∃ a, saidOf p (ps.getD j noSy).2 = some a ∧ IsClaim W (g + 1) a (us.getD j .nilFunc)
theorem Claims.keep {p : Int} {ps : List Sy} {g k : Nat} {us : List Value} {W W' : World} (h : Claims p ps g k us W) (hk : ∀ b, g + 1 ≤ b → b < W.heap.size → W'.heap[b]? = W.heap[b]?) : Claims p ps g k us W' := by
  intro j hj
  obtain ⟨a, h1, h2⟩ := h j hj
  exact ⟨a, h1, h2.keep hk⟩

theorem owns_keep {w w' : World} {lo c g n cap : Nat} {e : TypeId} {xs : List Value} (h : w.ownsRow lo e c (.slice (some ⟨g, 0, none⟩) n cap) n xs) (hk : w'.heap[g]? = w.heap[g]?) : w'.ownsRow lo e c (.slice (some ⟨g, 0, none⟩) n cap) n xs := by
  obtain ⟨hl, h⟩ := h
  refine ⟨hl, ?_⟩
  rcases h with h | ⟨g', cap', cur, e1, hg', hh, r⟩
  · exact .inl h
  · injection e1 with e2 e3 e4
    injection e2 with e2
    injection e2 with e2
    subst e2
    exact .inr ⟨g, cap', cur, by rw [e4], hg', hk.trans hh, r⟩
theorem Claims.put {p : Int} {ps : List Sy} {g k : Nat} {us : List Value} {W : World} {u : Value} {a : Say} (h : Claims p ps g k us W) (hs : saidOf p (ps.getD k noSy).2 = some a) (hu : IsClaim W (g + 1) a u) (hk : k < us.length) : Claims p ps g (k + 1) (us.set k u) (W.setCell ⟨g, k, none⟩ u) := by
  have hkeep : ∀ b, g + 1 ≤ b → b < W.heap.size → (W.setCell ⟨g, k, none⟩ u).heap[b]? = W.heap[b]? := fun b hb _ => heap_setCell_other W ⟨g, k, none⟩ b u (by show b ≠ g; omega)
  intro j hj
  by_cases e : j = k
  · subst e
    refine ⟨a, hs, ?_⟩
    have : (us.set j u).getD j .nilFunc = u := by simp [List.getD, hk]
    rw [this]
    exact hu.keep hkeep
  · obtain ⟨a', h1, h2⟩ := h j (by omega)
    refine ⟨a', h1, ?_⟩
    have : (us.set k u).getD j .nilFunc = us.getD j .nilFunc := by simp [List.getD, List.getElem?_set_ne (fun e' => e e'.symm)]
    rw [this]
    exact h2.keep hkeep

set_option maxHeartbeats 6400000 in
set_option maxRecDepth 100000 in
theorem implWaysOf_any (p : Int) (v : Value) (ps : List Sy) (w : World) (hl : Brief ps) (h : RdS w v ps) :
    Calls Try.prog 20 #[.int .i64 p, v] w fun e w' => ∃ v', e = .returned v' ∧ Own w' w.heap.size w'.heap.size v' (waysI p ps) ∧ Below w.heap.size w w' := by
  have HS := Lib.hid (fun W (hw : RdS W v ps) => implSayingsOk_any p v ps W hl hw)
  have HR := Lib.hid h
  have HWI : Hid (waysI p ps = if sayB p ps then waysL p ps (2 ^ p.toNat) else []) := rfl
  have q1 := fn_nil
  have q2 := fn_func
  rcases Bool.eq_false_or_eq_true (sayB p ps) with hs | hs
  · obtain ⟨hp, h6, hok⟩ := sayB_yes hs
    obtain ⟨q, rfl⟩ := Int.eq_ofNat_of_zero_le (show 0 ≤ p by omega)
    have HSB := Lib.hid hs
    have hq5 : q ≤ 5 := by omega
    have HPW := Lib.hid (pow_le hq5)
    have hwr : IntKind.i64.wrap ((2 : Int) ^ q) = ((2 ^ q : Nat) : Int) := shl_wrap ⟨q, by omega⟩
    have HWI2 : Hid (waysI (q : Int) ps = waysL q ps (2 ^ q)) := by unfold Hid; rw [HWI.out, if_pos hs]; rfl
    have HOK := Lib.hid hok
    obtain ⟨N, hN⟩ : ∃ N, N = 2 ^ q := ⟨_, rfl⟩
    rw [← hN] at hwr HWI2 HPW
    have HN := Lib.hid hN
    have HT := Lib.hid (fun l W (h : l.length < 4611686018427387904) => claimOf_any q l W h)
    obtain ⟨a1, cp, rfl, l1, m1, -⟩ := h
    obtain ⟨i0, hi, hz0, hz1, hz2⟩ := info_parts infoClaim
    obtain ⟨j0, hj, hy0, hy1, hy2⟩ := info_parts infoInt
    have HJ := Lib.hid (And.intro hj (And.intro hy0 (And.intro hy1 hy2)))
    clear hok hs hl hN hj hy0 hy1 hy2
    go_enter Try.func20, Try.ntmps20
    go_wp2_with fail
    with_reducible refine (HS.out _ HR.out).mono ?_
    rintro e w1 ⟨rfl, b1⟩
    rw [HSB.out]
    have HB1 := Lib.hid b1
    have s1 := b1.size
    clear b1
    go_wp2_with (at_make; refine wpList_make_full _ rfl _ _ 54 rfl w1.heap.size 56 i0 .nilFunc 1 Try.underlying54 hi hz0 hz1 _ _ _ _ ps.length rfl rfl rfl rfl ?c1 ?c2 ?c3 ?_)
    case c1 => rw [hz2]; omega
    case c2 => unfold maxLen; omega
    case c3 => exact Nat.le_refl _
    intro w2 hown hgr
    have e0 : (madeCells #[Value.nilFunc] ps.length).toList = List.replicate ps.length Value.nilFunc := (toList_madeCells_one _ _).trans (by simp)
    rw [e0] at hown
    obtain ⟨g, hg⟩ : ∃ g, g = w1.heap.size := ⟨_, rfl⟩
    rw [← hg] at hown ⊢
    have hb2 : Below w.heap.size w w2 := HB1.out.grown hgr (by omega) (fun k hk => by cases hk)
    have E0 := Lib.hid e0
    have HS1 : Hid (w.heap.size ≤ g) := by unfold Hid; omega
    clear e0 hz0 hz1 hz2 hi hgr hg s1
    have hc0 : Claims q ps g 0 (List.replicate ps.length Value.nilFunc) w2 := fun j hj => absurd hj (by omega)
    have hsg : g < w2.heap.size := (hown.lt _ rfl).2
    go_wp2
    go_loopw [22] (fun i wr => ∃ (k : Nat) (us : List Value), k ≤ ps.length ∧ i = .int .i64 k ∧ wr.ownsRow g 56 1 (.slice (some ⟨g, 0, none⟩) ps.length ps.length) ps.length us ∧ Hid (Claims q ps g k us wr) ∧ Below w.heap.size w wr ∧ g < wr.heap.size)
      (fun i _ => ps.length - (intOf i).toNat)
    case atStart => exact ⟨0, _, Nat.zero_le _, rfl, hown, hc0, hb2, hsg⟩
    case round =>
      clear hown hc0 hb2 hsg
      obtain ⟨k, us, hk, rfl, hr, hcl, hbr, hsr⟩ := hrel
      by_cases hlt : k < ps.length
      · obtain ⟨a2, cp2, e9, l2, m2, r2⟩ := HR.out.below hbr (Nat.le_refl _)
        injection e9 with e1 e2 e3
        subst e1 e3
        obtain ⟨g1, o1, x, l, rfl, hg1, ⟨c0, c1⟩, Z1⟩ := rdS_at r2 k hlt
        clear r2
        obtain ⟨a, ha, -, -, hll⟩ := okB_yes (HOK.out _ (memS hlt Z1.out))
        have hll : l.length ≤ 40 := hll
        have ha : saidOf q l = some a := ha
        have HA := Lib.hid (fun W => HT.out l W (by omega))
        have HSA := Lib.hid ha
        have HZ := Lib.hid Z1.out
        clear hll ha Z1
        have hrA := hr.alloc (.cells #[.int .i64 x, .string (tx l)] 45)
        have hbA := hbr.alloc (Nat.le_trans HS1.out (Nat.le_of_lt hsr)) (.cells #[.int .i64 x, .string (tx l)] 45)
        have hcA : Claims q ps g k us (wr.alloc (.cells #[.int .i64 x, .string (tx l)] 45)) := hcl.out.keep fun _ _ hb => Below.heap_alloc _ _ _ hb
        have hsA : g + 1 ≤ (wr.alloc (.cells #[.int .i64 x, .string (tx l)] 45)).heap.size := by simp; omega
        have HRA := Lib.hid hrA; have HBA := Lib.hid hbA; have HCA := Lib.hid hcA; have HSZ := Lib.hid hsA
        clear hrA hbA hcA hsA hcl
        generalize tx l = S at *
        go_wp2_with fail
        with_reducible refine (HA.out _).mono ?_
        rintro e w4 ⟨u, rfl, hu, ht⟩
        have hu' : IsClaim w4 (g + 1) a u := by
          rw [HSA.out] at hu
          exact IsClaim.wide (by have := HSZ.out; omega) hu
        have hb4 := HBA.out.trans (ht.below0.mono HBA.out.size)
        have hs4 : g < w4.heap.size := by have := ht.size; have := HSZ.out; omega
        have hr4 := owns_keep HRA.out (ht.block g (by have := HSZ.out; omega) (.inr (Nat.zero_le _)))
        have hc4 : Claims q ps g k us w4 := HCA.out.keep fun b _ hb => ht.block b hb (.inr (Nat.zero_le _))
        have hst := hr4.stored k u
        have hlu : us.length = ps.length := by have := hr4.1; omega
        have hc5 := hc4.put (by rw [← HZ.out]; exact HSA.out) hu' (by omega)
        have hfr := hr4.frozenAt k
        obtain ⟨z, hc⟩ := own_cell hr4 k hlt
        have hb5 := hb4.grown hst.2 (by have := HS1.out; omega) (fun j hj => by injection hj with hj; have := HS1.out; omega)
        have HST := Lib.hid hst.1; have HC5 := Lib.hid hc5; have HB5 := Lib.hid hb5
        have hfun : (∃ f caps, u = .func f #[] caps) := hu'.func
        obtain ⟨f, caps, rfl⟩ := hfun
        clear hst hc5 hb5 hc4 hr4 hb4 hu' hu ht hr hbr hsr hlu c0 c1
        go_wp2
        go_roundw
        case rel => exact ⟨k + 1, _, by omega, by go_num, HST.out, HC5.out, HB5.out, by simp; omega⟩
        case measure => simp [intOf]; omega
      · have hk' : k = ps.length := by omega
        subst hk'
        obtain ⟨W5, hW5⟩ : ∃ W5, W5 = wr := ⟨_, rfl⟩
        subst hW5
        have HRW := Lib.hid hr
        have HB5 := Lib.hid hbr
        have HCL := hcl
        have HKN : Hid (∀ j : Nat, j < ps.length → ∃ b : Nat, ∃ A : Say, (ps.getD j noSy).1 = (b : Int) ∧ b ≤ 4 ∧ saidOf q (ps.getD j noSy).2 = some A ∧ IsClaim W5 (g + 1) A (us.getD j .nilFunc)) := by
          intro j hj
          obtain ⟨A, h1, h2⟩ := hcl.out j hj
          obtain ⟨_, -, h3, h4, -⟩ := okB_yes (HOK.out _ (memS hj rfl))
          exact ⟨(ps.getD j noSy).1.toNat, A, by omega, by omega, h1, h2⟩
        clear hcl hr hbr HCL
        go_wp2
        go_loopw [8, 37] (fun vo i wk => ∃ k : Nat, k ≤ N ∧ i = .int .i64 k ∧ wk.ownsRow W5.heap.size 3 1 vo (waysL q ps k).length ((waysL q ps k).map (Value.int .i64)) ∧ Below W5.heap.size W5 wk ∧ W5.heap.size ≤ wk.heap.size)
          (fun _ i _ => N - (intOf i).toNat)
        case atStart => exact ⟨0, Nat.zero_le _, rfl, World.ownsRow_nil _ _ _ _, Below.refl _ _, Nat.le_refl _⟩
        case round =>
          obtain ⟨wk, hwk⟩ : ∃ wk, wk = wr := ⟨_, rfl⟩
          subst hwk
          obtain ⟨k, hk, rfl, ho, hbk, hsk⟩ := hrel
          by_cases hlt : k < N
          · have hN32 := HPW.out
            have HLW := Lib.hid (length_waysL (p := q) (ps := ps) k)
            have HO := Lib.hid ho
            have HBK := Lib.hid hbk
            clear ho hbk
            have HSUC := Lib.hid (waysL_succ (p := q) (ps := ps) k)
            generalize waysL q ps k = zs at *
            go_wp2
            go_loopw [10, 42] (fun m i wx => ∃ j : Nat, j ≤ ps.length ∧ i = .int .i64 j ∧ m = .bool (wayB q (ps.take j) k) ∧ Below wk.heap.size wk wx) (fun _ i _ => ps.length - (intOf i).toNat)
            case atStart => exact ⟨0, Nat.zero_le _, rfl, rfl, Below.refl _ _⟩
            case round =>
              obtain ⟨j, hj, rfl, rfl, hbx⟩ := hrel
              by_cases hlj : j < ps.length
              · have hsnoc := wayB_snoc (p := q) (k := k) hlj
                have hbW := HB5.out.trans ((HBK.out.trans (hbx.mono HBK.out.size)).mono HB5.out.size)
                obtain ⟨a2, cp2, e9, l2, m2, r2⟩ := HR.out.below hbW (Nat.le_refl _)
                injection e9 with e1 e2 e3
                subst e1 e3
                obtain ⟨g1, o1, x, l, rfl, hg1, ⟨c0, c1⟩, Z1⟩ := rdS_at r2 j hlj
                clear r2
                obtain ⟨b, A, hxb, hb4, hsd, hcl⟩ := HKN.out j hlj
                rw [← Z1.out] at hxb hsd hsnoc
                have hxb : x = (b : Int) := hxb
                have hsd : saidOf q l = some A := hsd
                have hsnoc : wayB q (ps.take (j + 1)) k = (wayB q (ps.take j) k && (soB q l k == bitB k x)) := hsnoc
                subst hxb
                rw [soB_val hsd (by rw [← HN.out]; exact hlt)] at hsnoc
                obtain ⟨W6, hW6⟩ : ∃ W6 : World, W6 = wr.alloc (.cells #[.int .i64 (b : Int), .string (tx l)] 45) := ⟨_, rfl⟩
                have hbt6 : Below W5.heap.size W5 W6 := by rw [hW6]; exact (HBK.out.trans (hbx.mono HBK.out.size)).alloc (Nat.le_trans hsk hbx.size) _
                have hbx6 : Below wk.heap.size wk W6 := by rw [hW6]; exact hbx.alloc hbx.size _
                have hsg5 := (HRW.out.lt g rfl).2
                have hr6 := owns_keep HRW.out (hbt6.block g hsg5)
                obtain ⟨K, caps, hu, hK, hev⟩ := claim_eval (hcl.keep (W' := W6) fun c _ hc => hbt6.block c hc)
                have c6 : W6.cell? ⟨g, j, none⟩ = some (.func (.func K) #[] caps) := by
                  have hlu : us.length = ps.length * 1 := hr6.1
                  rw [hr6.cellAt j (by omega), ← hu]
                  simp [List.getD, List.getElem?_eq_getElem (show j < us.length by omega)]
                have x6 : W6.cell? ⟨wr.heap.size, 0, none⟩ = some (.int .i64 (b : Int)) := by rw [hW6, World.cell?_alloc_at _ _ _ _ rfl]; rfl
                have hE := fun m => hK (#[.int .i64 (k : Int)] ++ caps) (W6.drewN m)
                obtain ⟨y, hy⟩ : ∃ y, y = A.val k := ⟨_, rfl⟩
                have T : Hid (∀ m, Calls Try.prog K (#[.int .i64 (k : Int)] ++ caps) (W6.drewN m) fun e w'' => e = .returned (.bool y) ∧ ∃ r, w'' = (W6.drewN m).drewN r) := fun m => by rw [hy]; exact hev k m (by omega)
                obtain ⟨z, hz⟩ : ∃ z : Int, z = ((k / 2 ^ b % 2 : Nat) : Int) := ⟨_, rfl⟩
                have hbit : bits BinOp.and IntKind.i64 ((k : Int) / 2 ^ b) 1 = z := by rw [hz]; exact shift_bit ⟨k, by omega⟩ ⟨b, by omega⟩
                have HSN : Hid (wayB q (ps.take (j + 1)) k = (wayB q (ps.take j) k && (y == (z == 1)))) := by
                  unfold Hid
                  rw [hsnoc, ← hy]
                  congr 2
                  unfold bitB
                  rw [Int.toNat_natCast, hz]
                  generalize k / 2 ^ b % 2 = t
                  rw [Bool.eq_iff_iff, beq_iff_eq, beq_iff_eq]; omega
                have HW6 := Lib.hid hW6; have HBX := Lib.hid hbx6
                clear hW6 hbx6 hbt6 hbx hbW hsnoc hcl hsd Z1 hr6 hu hK hev hy hz
                generalize tx l = S at *
                generalize wayB q (ps.take j) k = m0 at *
                cases m0 with
                | false =>
                  have HSN2 : Hid (wayB q (ps.take (j + 1)) k = false) := by unfold Hid; rw [HSN.out]; rfl
                  go_wp2_with fail
                  rw [← HW6.out]
                  go_quiet (fail)
                  go_wp2
                  go_roundw
                  case rel => exact ⟨j + 1, by omega, by go_num, by rw [HSN2.out], below_drewN HBX.out _⟩
                  case measure => simp [intOf]; omega
                | true =>
                  have HSN2 : Hid (wayB q (ps.take (j + 1)) k = (y == (z == 1))) := by unfold Hid; rw [HSN.out]; rfl
                  go_wp2_with fail
                  rw [← HW6.out]
                  go_quiet (exact Calls.quiet_of (T.out _))
                  go_wp2
                  go_roundw
                  case rel => exact ⟨j + 1, by omega, by go_num, by rw [HSN2.out], below_drewN HBX.out _⟩
                  case measure => simp [intOf]; omega
              · have hj' : j = ps.length := by omega
                subst hj'
                rw [List.take_length]
                have hso := (((Own.new HO.out (Nat.le_refl _)).below hbx (Nat.le_refl _)).1)
                have hbq := HBK.out.trans (hbx.mono HBK.out.size)
                have hsq : W5.heap.size ≤ wr.heap.size := Nat.le_trans hsk hbx.size
                have HBQ := Lib.hid hbq
                have hlz : zs.length ≤ 32 := by have := HLW.out; have := HPW.out; omega
                generalize hwb : wayB q ps k = b0 at *
                cases b0 with
                | false =>
                  have HSU2 : Hid (waysL q ps (k + 1) = zs) := by unfold Hid; rw [HSUC.out]; simp
                  have HSO := Lib.hid hso
                  clear hso hbq hbx hwb
                  go_wp2
                  go_roundw
                  case rel => exact ⟨k + 1, by omega, by go_num, by rw [HSU2.out]; exact HSO.out, HBQ.out, hsq⟩
                  case measure => simp [intOf]; omega
                | true =>
                  have HSU2 : Hid (waysL q ps (k + 1) = zs ++ [(k : Int)]) := by unfold Hid; rw [HSUC.out]; simp
                  obtain ⟨hji, hjy0, hjy1, hjy2⟩ := HJ.out
                  clear hbq hbx hwb
                  go_wp2_with (first | (at_builtin; go_loud (refine wpList_append_own _ rfl _ _ 32 rfl W5.heap.size 3 j0 (.int .i64 0) 1 8 Try.underlying32 hji hjy0 hjy1 hjy2 rfl (by decide) _ _ _ rfl (hso.alloc _) ⟨wr.heap.size, 0, none⟩ 1 1 [.int .i64 (k : Int)] rfl rfl (one_new _ _ _) ?c2 ?c3 ?c4 ?c5 ?_)) | go_in)
                  case c2 => first | exact one_cell _ _ | rfl
                  case c3 => unfold maxLen; omega
                  case c4 => omega
                  case c5 => first | omega | (simp; omega)
                  intro v' w9 hown' hgr _
                  have HRL := Lib.hid (app_rel hso HBQ.out (Nat.le_refl _) hsq hown' hgr)
                  clear hown' hgr hso hjy0 hjy1 hjy2 hji
                  go_wp2
                  go_roundw
                  case rel => exact ⟨k + 1, by omega, by go_num, by rw [HSU2.out]; exact HRL.out.1, HRL.out.2.1, HRL.out.2.2⟩
                  case measure => simp [intOf]; omega
          · have hk' : k = N := by omega
            have HO : Hid (Own wk w.heap.size wk.heap.size u8 (waysI q ps)) := by
              unfold Hid
              rw [HWI2.out, ← hk']
              exact Own.wide (Own.new ho (Nat.le_refl _)) HB5.out.size (Nat.le_refl _)
            have HB := Lib.hid (HB5.out.trans (hbk.mono HB5.out.size))
            clear ho hbk
            go_wp2
            go_ret
            exact ⟨_, rfl, HO.out, HB.out⟩
  · have HSB := Lib.hid hs
    have HWI2 : Hid (waysI p ps = []) := by unfold Hid; rw [HWI.out, if_neg (by rw [hs]; decide)]
    clear hs hl
    obtain ⟨a1, cp, rfl, l1, m1, -⟩ := h
    go_enter Try.func20, Try.ntmps20
    go_wp2_with fail
    with_reducible refine (HS.out _ HR.out).mono ?_
    rintro e w1 ⟨rfl, b1⟩
    rw [HSB.out]
    have HB := Lib.hid b1
    clear b1
    go_wp2
    go_ret
    exact ⟨_, rfl, by rw [HWI2.out]; exact ⟨World.ownsRow_nil _ _ _ _, fun k hk => (by cases hk)⟩, HB.out⟩
end Go.Proofs.Ytajelgheccfcoaa

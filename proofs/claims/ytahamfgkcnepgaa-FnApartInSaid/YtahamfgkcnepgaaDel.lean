/- slices.DeleteFunc at places: what it leaves. -/
import Derived.Test.YtahamfgkcnepgaaHitsSp
import Derived.Lib.SliceRun
import Derived.Deep.Upon
namespace Go.Proofs.Ytahamfgkcnepgaa
open Go.RowKit

theorem owns_setCells {lo g n cap : Nat} {e : TypeId} : ∀ (vs : List Value) (o : Nat) (w : World) (xs : List Value), w.ownsRow lo e 3 (.slice (some ⟨g, 0, none⟩) n cap) n xs →
    ∃ ys, (w.setCells g o vs).ownsRow lo e 3 (.slice (some ⟨g, 0, none⟩) n cap) n ys ∧ ys.take o = xs.take o ∧ w.grownBy (w.setCells g o vs) (some g) ∧ (w.setCells g o vs).heap.size = w.heap.size
  | [], o, w, xs, h => ⟨xs, h, rfl, World.grownBy.refl w _, rfl⟩
  | u :: vs, o, w, xs, h => by
    have h1 := h.stored o u
    obtain ⟨ys, h2, h3, h4, h5⟩ := owns_setCells vs (o + 1) _ _ h1.1
    refine ⟨ys, h2, ?_, h1.2.trans h4, by show ((w.setCell ⟨g, o, none⟩ u).setCells g (o + 1) vs).heap.size = _; rw [h5]; simp⟩
    have e1 : ys.take o = (ys.take (o + 1)).take o := by rw [List.take_take, Nat.min_eq_left (by omega)]
    rw [e1, h3, List.take_take, Nat.min_eq_left (by omega), List.take_set_of_le (Nat.le_refl o)]

theorem owns_prefix {w : World} {lo g n cap i : Nat} {e : TypeId} {xs : List Value} (h : w.ownsRow lo e 3 (.slice (some ⟨g, 0, none⟩) n cap) n xs) (hi : i ≤ n) : w.ownsRow lo e 3 (.slice (some ⟨g, 0, none⟩) i cap) i (xs.take (i * 3)) := by
  obtain ⟨hl, h⟩ := h
  refine ⟨by rw [List.length_take, hl]; omega, ?_⟩
  rcases h with ⟨e1, _⟩ | ⟨g', cap', cur, e1, hg, hh, hn, hm, hsz, ht⟩
  · cases e1
  · injection e1 with e2 e3 e4
    injection e2 with e2
    injection e2 with e2
    subst e2 e4
    refine .inr ⟨g, cap, cur, rfl, hg, hh, by omega, hm, hsz, ?_⟩
    rw [← ht, List.take_take, Nat.min_eq_left (by omega)]

theorem zeroPlace : ∀ w, (zeroValue 26).run Try.prog w = .ok (.agg #[.int .i64 0, .int .i64 0, .int .i64 0]) w := fun w => by kernel_rfl

theorem run_clear_places (w : World) (ty : TypeId) (b o n c : Nat) (hn : 0 < n) (hc : ∀ j, j < n * 3 → (w.cell? ⟨b, o + j, none⟩).isSome = true) (hf : ∀ j, j < n * 3 → w.frozen? ⟨b, o + j, none⟩ = false) :
    (Builtin.clear_ #[33] ty #[.slice (some ⟨b, o, none⟩) n c]).run Try.prog w = .ok (.tuple #[]) (w.setCells b o (Builtin.zeroCells #[.int .i64 0, .int .i64 0, .int .i64 0] n).toList) := by
  have hl : (Builtin.zeroCells #[.int .i64 0, .int .i64 0, .int .i64 0] n).toList.length = n * 3 := by
    rw [Array.length_toList]; simp [Builtin.zeroCells]
  have h1 : ∀ v ∈ (Builtin.zeroCells #[.int .i64 0, .int .i64 0, .int .i64 0] n).toList, v.oneCell' = true := fun v hv => by
    rw [Array.mem_toList_iff] at hv
    obtain ⟨i, hi, rfl⟩ := Array.getElem_of_mem hv
    simp only [Builtin.zeroCells, Array.getElem_map, Array.getElem_range]
    have h3 : i % 3 = 0 ∨ i % 3 = 1 ∨ i % 3 = 2 := by omega
    rcases h3 with h3 | h3 | h3 <;> simp [h3, Value.oneCell']
  have hst := run_storeCells_cells (P := Try.prog) b o (Builtin.zeroCells #[.int .i64 0, .int .i64 0, .int .i64 0] n).toList 0 w (by rw [hl]; simpa using hc) (by rw [hl]; simpa using hf) h1
  simp only [Nat.add_zero] at hst
  obtain ⟨m, rfl⟩ : ∃ m, n = m + 1 := ⟨n - 1, by omega⟩
  have hz := zeroPlace w
  simp [Builtin.clear_, run_underlying Try.underlying33, hz, hst, Value.cells]

/-- What the closure of StillAt needs to tell: del of each place, whatever happens from B on. -/
def PlPred (B : Nat) (wb : World) (c1 c2 : Value) (del : Pl → Bool) (ps : List Pl) : Prop :=
  ∀ W, Below B wb W → ∀ x y z : Int, (x, y, z) ∈ ps → Calls Try.prog 83 #[.agg #[.int .i64 x, .int .i64 y, .int .i64 z], c1, c2] W fun e w' => e = .returned (.bool (del (x, y, z))) ∧ Below W.heap.size W w'

theorem memP {ps : List Pl} {k : Nat} (hk : k < ps.length) {q : Pl} (h : q = ps.getD k (0, 0, 0)) : q ∈ ps := by
  rw [h]; simp [List.getD, List.getElem?_eq_getElem hk]

set_option maxRecDepth 100000 in
theorem IndexFunc_pl (v : Value) (ps : List Pl) (del : Pl → Bool) (c1 c2 : Value) (B : Nat) (wb w : World) (h : RdP w v ps) (hb : Below B wb w) (hB : B ≤ w.heap.size) (HP : PlPred B wb c1 c2 del ps) :
    Calls Try.prog 89 #[v, .func (.func 83) #[] #[c1, c2]] w fun e w' => (∃ k : Int, e = .returned (.int .i64 k) ∧ ((k = -1 ∧ ∀ p ∈ ps, del p = false) ∨ ∃ n : Nat, n < ps.length ∧ k = n ∧ (∀ p ∈ ps.take n, del p = false) ∧ del (ps.getD n (0, 0, 0)) = true)) ∧ Below w.heap.size w w' := by
  have HR := Lib.hid h
  have HPP := Lib.hid HP
  have HBB := Lib.hid hb
  obtain ⟨a1, cp, rfl, l1, m1, r1⟩ := h
  clear r1 HP hb
  go_enter Try.func89, Try.ntmps89
  go_wp2
  go_loopw [8] (fun i wr => ∃ k : Nat, k ≤ ps.length ∧ i = .int .i64 k ∧ Hid (∀ p ∈ ps.take k, del p = false) ∧ Below w.heap.size w wr) (fun i _ => ps.length - (intOf i).toNat)
  case atStart => exact ⟨0, Nat.zero_le _, rfl, (fun p hp => by simp at hp), Below.refl _ _⟩
  case round =>
    obtain ⟨k, hk, rfl, hno, hbr⟩ := hrel
    by_cases hlt : k < ps.length
    · obtain ⟨a2, cp2, e9, l2, m2, r2⟩ := HR.out.below hbr
      injection e9 with e1 e2 e3
      subst e1 e3
      obtain ⟨g1, o1, x, y, z, rfl, hg1, ⟨q0, q1, q2⟩, Z1⟩ := rdP_at r2 k hlt
      clear r2
      go_wp2_with fail
      refine (HPP.out _ (HBB.out.trans (hbr.mono hB)) x y z (memP hlt Z1.out)).mono ?_
      rintro e w' ⟨rfl, b⟩
      have HB := Lib.hid (hbr.trans (b.mono hbr.size))
      clear b hbr q0 q1 q2
      rcases Bool.eq_false_or_eq_true (del (x, y, z)) with hd | hd
      · rw [hd]
        have HF : Hid (del (ps.getD k (0, 0, 0)) = true) := by unfold Hid; rw [← Z1.out]; exact hd
        clear hd
        go_wp2
        go_ret
        exact ⟨⟨k, rfl, .inr ⟨k, hlt, rfl, hno.out, HF.out⟩⟩, HB.out⟩
      · rw [hd]
        have HS : Hid (∀ p ∈ ps.take (k + 1), del p = false) := fun p hp => by
          rw [takeP_snoc ps k hlt, List.mem_append, List.mem_singleton] at hp
          rcases hp with hp | rfl
          · exact hno.out p hp
          · rw [← Z1.out]; exact hd
        clear hd
        go_wp2
        go_round
        case rel => exact ⟨k + 1, by omega, by go_num, HS, HB.out⟩
        case measure => simp [intOf]; omega
    · have hk' : k = ps.length := by omega
      subst hk'
      have HB := Lib.hid hbr
      have HA : Hid (∀ p ∈ ps, del p = false) := fun p hp => hno.out p (by rw [List.take_length]; exact hp)
      clear hbr
      go_wp2
      go_ret
      exact ⟨⟨-1, rfl, .inl ⟨rfl, HA.out⟩⟩, HB.out⟩

theorem ownsRow_below {w w' : World} {lo g n cap B : Nat} {e : TypeId} {xs : List Value} (h : w.ownsRow lo e 3 (.slice (some ⟨g, 0, none⟩) n cap) n xs) (hb : Below B w w') (hg : g < B) : w'.ownsRow lo e 3 (.slice (some ⟨g, 0, none⟩) n cap) n xs := by
  obtain ⟨hl, h⟩ := h
  refine ⟨hl, ?_⟩
  rcases h with h | ⟨g', cap', cur, e1, hg', hh, r⟩
  · exact .inl h
  · injection e1 with e2 e3 e4
    injection e2 with e2
    injection e2 with e2
    subst e2 e4
    exact .inr ⟨g, cap, cur, rfl, hg', by rw [hb.block g hg]; exact hh, r⟩

theorem cellsP_set : ∀ (qs : List Pl) (i : Nat) (x y z : Int), i < qs.length → (((cellsP qs).set (i * 3) (.int .i64 x)).set (i * 3 + 1) (.int .i64 y)).set (i * 3 + 2) (.int .i64 z) = cellsP (qs.set i (x, y, z))
  | [], i, _, _, _, h => absurd h (by simp)
  | p :: l, 0, _, _, _, _ => rfl
  | p :: l, i + 1, x, y, z, h => by
    have := cellsP_set l i x y z (by simpa using h)
    rw [show (i + 1) * 3 = i * 3 + 1 + 1 + 1 from by omega]
    simp only [cellsP, List.set_cons_succ, ← this]

theorem take_cellsP : ∀ (qs : List Pl) (i : Nat), (cellsP qs).take (i * 3) = cellsP (qs.take i)
  | [], i => by simp [cellsP]
  | p :: l, 0 => by simp [cellsP]
  | p :: l, i + 1 => by
    rw [show (i + 1) * 3 = i * 3 + 1 + 1 + 1 from by omega]
    simp only [cellsP, List.take_succ_cons, take_cellsP l i]

/-- Where DeleteFunc stands: i places are kept of the first j. -/
structure DelInv (ps qs : List Pl) (del : Pl → Bool) (i j : Nat) : Prop where
  len : qs.length = ps.length
  low : qs.take i = (ps.take j).filter fun p => !del p
  high : qs.drop j = ps.drop j

theorem DelInv.at {ps qs : List Pl} {del : Pl → Bool} {i j : Nat} (h : DelInv ps qs del i j) : qs.getD j (0, 0, 0) = ps.getD j (0, 0, 0) := by
  have := congrArg (fun l => l.getD 0 ((0, 0, 0) : Pl)) h.high
  simpa [List.getD] using this
theorem DelInv.skip {ps qs : List Pl} {del : Pl → Bool} {i j : Nat} (h : DelInv ps qs del i j) (hj : j < ps.length) (hd : del (ps.getD j (0, 0, 0)) = true) : DelInv ps qs del i (j + 1) := by
  refine ⟨h.len, ?_, ?_⟩
  · rw [h.low, takeP_snoc ps j hj, List.filter_append]; simp [List.filter_cons, List.getD] at hd ⊢; simp [hd]
  · have := congrArg (fun l => l.drop 1) h.high
    simpa using this
theorem DelInv.keep {ps qs : List Pl} {del : Pl → Bool} {i j : Nat} (h : DelInv ps qs del i j) (hij : i < j) (hj : j < ps.length) (hd : del (ps.getD j (0, 0, 0)) = false) : DelInv ps (qs.set i (ps.getD j (0, 0, 0))) del (i + 1) (j + 1) := by
  have hl := h.len
  refine ⟨by simp [hl], ?_, ?_⟩
  · rw [takeP_snoc ps j hj, List.filter_append, ← h.low, List.take_add_one, List.take_set_of_le (Nat.le_refl i)]
    congr 1
    rw [List.getElem?_set_self (by omega)]
    simp [List.filter_cons, List.getD] at hd ⊢; simp [hd]
  · rw [List.drop_set_of_lt (by omega)]
    have := congrArg (fun l => l.drop 1) h.high
    simpa using this
theorem DelInv.start {ps : List Pl} {del : Pl → Bool} {n : Nat} (hn : n < ps.length) (h : ∀ p ∈ ps.take n, del p = false) (hd : del (ps.getD n (0, 0, 0)) = true) : DelInv ps ps del n (n + 1) := by
  refine ⟨rfl, ?_, rfl⟩
  rw [takeP_snoc ps n hn, List.filter_append, List.filter_eq_self.2 (fun p hp => by rw [h p hp]; rfl)]
  simp [List.filter_cons, List.getD] at hd ⊢; simp [hd]

set_option maxHeartbeats 1600000 in
set_option maxRecDepth 100000 in
theorem DeleteFunc_pl (v : Value) (ps : List Pl) (del : Pl → Bool) (c1 c2 : Value) (B lo hi : Nat) (wb w : World) (h : OwnP w lo hi v ps) (hlo : B ≤ lo) (hlo2 : lo ≤ w.heap.size) (hb : Below B wb w) (hB : B ≤ w.heap.size) (HP : PlPred B wb c1 c2 del ps) :
    Calls Try.prog 82 #[v, .func (.func 83) #[] #[c1, c2]] w fun e w' => ∃ v', e = .returned v' ∧ OwnP w' lo hi v' (ps.filter fun p => !del p) ∧ Below lo w w' ∧ w.heap.size ≤ w'.heap.size := by
  have HIF := Lib.hid (IndexFunc_pl v ps del c1 c2 B wb w h.rd hb hB HP)
  have HPP := Lib.hid HP
  have HBB := Lib.hid hb
  have HO := Lib.hid h
  obtain ⟨⟨hl, h⟩, hi'⟩ := h
  rcases h with ⟨rfl, hz⟩ | ⟨g, cap, cur, rfl, hg, hh', hn, hm, hsz, ht⟩
  · have hz' := List.length_eq_zero_iff.1 hz
    subst hz'
    clear hl hi' HP hb
    go_enter Try.func82, Try.ntmps82
    go_wp2_with fail
    refine HIF.out.mono ?_
    rintro e w1 ⟨⟨k, rfl, hk⟩, b1⟩
    have hk1 : k = -1 := by
      rcases hk with ⟨h1, _⟩ | ⟨n, h1, _⟩
      · exact h1
      · exact absurd h1 (by simp)
    subst hk1
    have HB1 := Lib.hid b1
    clear hk b1
    go_wp2
    go_ret
    exact ⟨_, rfl, ownP_nil _ _ _, HB1.out.mono (by omega), HB1.out.size⟩
  · have hown := HO.out.1
    have hgh : g < hi := hi' g rfl
    have hgw : g < w.heap.size := (Array.getElem?_eq_some_iff.1 hh').1
    clear hh' ht hsz hl hi' HP hb
    unfold maxLen at hm
    go_enter Try.func82, Try.ntmps82
    go_wp2_with fail
    refine HIF.out.mono ?_
    rintro e w1 ⟨⟨k, rfl, hk⟩, b1⟩
    have s1 := b1.size
    have hown1 := ownsRow_below hown b1 hgw
    have HB1 := Lib.hid b1
    clear b1 hown
    rcases hk with ⟨rfl, hall⟩ | ⟨n, hnl, rfl, hno, hyes⟩
    · have HF : Hid (ps.filter (fun p => !del p) = ps) := List.filter_eq_self.2 fun p hp => by rw [hall p hp]; rfl
      have HOW := Lib.hid hown1
      clear hall hown1
      go_wp2
      go_ret
      refine ⟨_, rfl, ⟨by rw [HF.out]; exact HOW.out, ?_⟩, HB1.out.mono hlo2, HB1.out.size⟩
      intro j hj
      have : g = j := by injection hj
      omega
    · have HI := Lib.hid (DelInv.start hnl hno hyes)
      have hne : ((n : Int) == -1) = false := beq_eq_false_iff_ne.2 (by omega)
      clear hno hyes
      go_wp2_with fail
      go_loopw [5, 6] (fun s5 s6 wr => ∃ i j : Nat, ∃ qs : List Pl, s5 = .int .i64 i ∧ s6 = .int .i64 j ∧ i < j ∧ j ≤ ps.length ∧ Hid (DelInv ps qs del i j) ∧ wr.ownsRow lo 26 3 (.slice (some ⟨g, 0, none⟩) ps.length cap) ps.length (cellsP qs) ∧ Below lo w wr ∧ w.heap.size ≤ wr.heap.size) (fun _ s6 _ => ps.length - (intOf s6).toNat)
      case atStart => exact ⟨n, n + 1, ps, rfl, by go_num, by omega, by omega, HI, hown1, HB1.out.mono hlo2, s1⟩
      case round =>
        clear hown1 s1 HI hne hnl
        obtain ⟨i, j, qs, rfl, rfl, hij, hjl, hinv, ho, hbw, hsw⟩ := hrel
        by_cases hlt : j < ps.length
        · have hql := hinv.out.len
          obtain ⟨c0, c1', c2'⟩ := cellsP_at qs j (by omega)
          rw [hinv.out.at] at c0 c1' c2'
          have q0 := (ho.cellAt (j * 3) (by omega)).trans c0
          have q1 := (ho.cellAt (j * 3 + 1) (by omega)).trans c1'
          have q2 := (ho.cellAt (j * 3 + 2) (by omega)).trans c2'
          obtain ⟨x, y, z, hp⟩ : ∃ x y z, (x, y, z) = ps.getD j (0, 0, 0) := ⟨_, _, _, rfl⟩
          have HPJ := Lib.hid hp
          rw [← hp] at q0 q1 q2
          clear hp c0 c1' c2'
          go_wp2_with fail
          have hbA : Below wr.heap.size wr (wr.alloc (.cells #[.int .i64 x, .int .i64 y, .int .i64 z] 26)) := (Below.refl _ _).alloc (Nat.le_refl _) _
          refine (HPP.out _ (HBB.out.trans ((hbw.mono hlo).trans (hbA.mono (by omega)))) x y z (memP hlt HPJ.out)).mono ?_
          rintro e w3 ⟨rfl, b3⟩
          have s3 := b3.size
          rw [World.size_alloc] at b3 s3
          have g3 := (b3.block _ (by omega)).trans (heap_alloc_new wr (.cells #[.int .i64 x, .int .i64 y, .int .i64 z] 26))
          obtain ⟨⟨x0, x1, x2⟩, -, -, -, -⟩ := blk3 g3
          have hgr : g < wr.heap.size := by omega
          have hb3 := hbA.trans (b3.mono (by omega))
          have ho3 := ownsRow_below ho hb3 hgr
          have hbw3 := hbw.trans (hb3.mono (by omega))
          have hs3 : w.heap.size ≤ w3.heap.size := by omega
          clear b3 g3 hbA hb3 q0 q1 q2 ho hbw
          rcases Bool.eq_false_or_eq_true (del (x, y, z)) with hd | hd
          · rw [hd]
            have HS := Lib.hid (hinv.out.skip hlt (by rw [← HPJ.out]; exact hd))
            have HO3 := Lib.hid ho3
            clear hd ho3
            go_wp2
            go_roundw
            case rel => exact ⟨i, j + 1, qs, rfl, by go_num, by omega, by omega, HS, HO3.out, hbw3, hs3⟩
            case measure => simp [intOf]; omega
          · rw [hd]
            have HS := hinv.out.keep hij hlt (by rw [← HPJ.out]; exact hd)
            rw [← HPJ.out] at HS
            have hil : i < qs.length := by omega
            have hset := cellsP_set qs i x y z hil
            have t1 := ho3.stored (i * 3) (.int .i64 x)
            have t2 := t1.1.stored (i * 3 + 1) (.int .i64 y)
            have t3 := t2.1.stored (i * 3 + 2) (.int .i64 z)
            rw [hset] at t3
            have HSD := Lib.hid HS
            have HST := Lib.hid t3.1
            have hgr3 := (t1.2.trans t2.2).trans t3.2
            have HBW := Lib.hid (hbw3.grown hgr3 (by omega) (fun k hk => by injection hk with hk; subst hk; omega))
            have f0 := ho3.frozenAt (i * 3)
            have f1 := ho3.frozenAt (i * 3 + 1)
            have f2 := ho3.frozenAt (i * 3 + 2)
            have hat : ∀ k, k < ps.length * 3 → ∃ u, w3.cell? ⟨g, k, none⟩ = some u := fun k hk => by
              have := ho3.cellAt k (by omega)
              rw [List.getElem?_eq_getElem (by rw [length_cellsP]; omega)] at this
              exact ⟨_, this⟩
            obtain ⟨u0, d0⟩ := hat (i * 3) (by omega)
            obtain ⟨u1, d1⟩ := hat (i * 3 + 1) (by omega)
            obtain ⟨u2, d2⟩ := hat (i * 3 + 2) (by omega)
            clear hd ho3 hat HS hset t1 t2 t3 hgr3 hbw3
            go_wp2
            go_roundw
            case rel => exact ⟨i + 1, j + 1, _, by go_num, by go_num, by omega, by omega, HSD, HST.out, HBW.out, by simp; exact hs3⟩
            case measure => simp [intOf]; omega
        · have hjj : j = ps.length := by omega
          have hlo' := hinv.out.low
          have hlq := hinv.out.len
          rw [hjj, List.take_length] at hlo'
          have hil : (ps.filter fun p => !del p).length = i := by rw [← hlo', List.length_take]; omega
          have hat : ∀ k, k < (ps.length - i) * 3 → (wr.cell? ⟨g, i * 3 + k, none⟩).isSome = true := fun k hk => by
            rw [ho.cellAt (i * 3 + k) (by omega), List.getElem?_eq_getElem (by rw [length_cellsP]; omega)]; rfl
          have hcl := fun ty => run_clear_places wr ty g (i * 3) (ps.length - i) (cap - i) (by omega) hat (fun k _ => ho.frozenAt _)
          obtain ⟨ys, o1, e1, g1, z1⟩ := owns_setCells (Builtin.zeroCells #[.int .i64 0, .int .i64 0, .int .i64 0] (ps.length - i)).toList (i * 3) wr _ ho
          have o2 := owns_prefix o1 (show i ≤ ps.length by omega)
          have e2 : ys.take (i * 3) = cellsP (ps.filter fun p => !del p) := by
            rw [e1, ← hlo', take_cellsP]
          rw [e2] at o2
          have HO2 := Lib.hid o2
          have HB2 := Lib.hid (hbw.grown g1 (by omega) (fun k hk => by injection hk with hk; subst hk; omega))
          have HZ := Lib.hid z1
          have HIL := Lib.hid hil
          clear hat o1 e1 g1 z1 o2 e2 hlo' hil ho hbw
          go_wp2
          go_ret
          refine ⟨_, rfl, ⟨by rw [HIL.out]; exact HO2.out, ?_⟩, HB2.out, by rw [HZ.out]; exact hsw⟩
          intro k hk
          have : g = k := by injection hk
          omega
end Go.Proofs.Ytahamfgkcnepgaa

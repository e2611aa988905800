/- AfterVisit: lemmas ahead of the walk. -/
import Derived.Test.YtnpfjpihcdlmhaaAfterV
import Derived.Deep.RegionHeld3
import Derived.Deep.AppendLies
import Derived.Deep.DeepCutAuto
namespace Go.Proofs.Ytnpfjpihcdlmhaa
open Go.RowKit

theorem sumI_set : ∀ (zs : List Int) (p : Nat) (x : Int), p < zs.length → sumI (zs.set p x) = sumI zs - zs.getD p 0 + x
  | [], p, x, h => absurd h (by simp)
  | a :: l, 0, x, _ => by rw [List.set_cons_zero, sumI_cons, sumI_cons]; simp; omega
  | a :: l, p + 1, x, h => by
    have ih := sumI_set l p x (by simpa using h)
    rw [List.set_cons_succ, sumI_cons, sumI_cons, ih]
    simp only [List.getD_cons_succ]; omega

theorem roomB_step {sw cnt : Int} {zs : List Int} {p : Nat} (h : roomB sw cnt zs = true) (hp : p < zs.length) : roomB (vSw sw zs p) (vCnt sw cnt p) (vDone sw zs p) = true := by
  obtain ⟨h1, h2, h3, h4, h5, h6, h7, h8⟩ := roomB_yes h
  by_cases h0 : p = 0
  · subst h0
    have e1 : vSw sw zs 0 = 0 := by simp [vSw]
    have e2 : vCnt sw cnt 0 = cnt + sw := by simp [vCnt]
    have e3 : vDone sw zs 0 = zs := by simp [vDone, vHit]
    rw [e1, e2, e3]
    exact roomB_mk h1 h2 h3 (by omega) (by omega) (by omega) h7 (by omega)
  · cases hv : vHit sw zs p
    · have e1 : vSw sw zs p = sw := by unfold vSw; rw [if_neg h0, if_neg (by simp [hv])]
      have e2 : vCnt sw cnt p = cnt := by unfold vCnt; rw [if_neg h0]
      have e3 : vDone sw zs p = zs := by unfold vDone; rw [if_neg (by simp [hv])]
      rw [e1, e2, e3]; exact h
    · have e1 : vSw sw zs p = 1 := by unfold vSw; rw [if_neg h0, if_pos hv]
      have e2 : vCnt sw cnt p = cnt := by unfold vCnt; rw [if_neg h0]
      have e3 : vDone sw zs p = zs.set p 1 := by unfold vDone; rw [if_pos hv]
      simp only [vHit, Bool.and_eq_true, decide_eq_true_eq] at hv
      rw [e1, e2, e3]
      refine roomB_mk (by simpa using h1) (by simpa using h2) (fun z hz => ?_) (by omega) (by omega) h6 ?_ ?_
      · rcases List.mem_or_eq_of_mem_set hz with h | h
        · exact h3 z h
        · omega
      · simp only [List.getD] at h7 ⊢
        rw [List.getElem?_set_ne h0]; exact h7
      · rw [sumI_set zs p 1 hp, hv.2.2]; omega

/-- The room behind a visit; the zero room where there is none. -/
def avB (sw cnt : Int) (zs : List Int) (q : Int) : Bool := roomB sw cnt zs && inB 0 ((zs.length : Int) - 1) q
def avSw (sw cnt : Int) (zs : List Int) (q : Int) : Int := if avB sw cnt zs q then vSw sw zs q.toNat else 0
def avCnt (sw cnt : Int) (zs : List Int) (q : Int) : Int := if avB sw cnt zs q then vCnt sw cnt q.toNat else 0
def avDone (sw cnt : Int) (zs : List Int) (q : Int) : List Int := if avB sw cnt zs q then vDone sw zs q.toNat else []

theorem keep3 (W : World) (s t : Nat) (hne : t ≠ s) (x y z v : Value) (i : Nat) (hc : W.cell? ⟨s, i, none⟩ = some v) : (((W.setCell ⟨t, 0, none⟩ x).setCell ⟨t, 1, none⟩ y).setCell ⟨t, 2, none⟩ z).cell? ⟨s, i, none⟩ = some v := by
  rw [World.cell?_setCell_other _ _ _ _ (by intro e; injection e; omega), World.cell?_setCell_other _ _ _ _ (by intro e; injection e; omega), World.cell?_setCell_other _ _ _ _ (by intro e; injection e; omega)]
  exact hc

/-- What the making of the new room leaves behind. -/
def AvCut (w wx : World) (sw cnt : Int) (v : Value) (zs : List Int) (s : Value) : Prop :=
  ∃ g lo hi A c, s = .pointer (some ⟨g, 0, none⟩) ∧ wx.heap[g]? = some (.cells #[.int .i64 sw, .int .i64 cnt, .slice A zs.length c] 30 (0, 0)) ∧
    Own wx lo hi (.slice A zs.length c) zs ∧ (g < lo ∨ hi ≤ g) ∧ w.heap.size + 2 ≤ g ∧ w.heap.size + 2 ≤ lo ∧ hi ≤ wx.heap.size ∧
    wx.heap[w.heap.size]? = some (.cells #[.int .i64 sw, .int .i64 cnt, v] 30 (0, 0)) ∧ wx.heap[w.heap.size + 1]? = some (.cells #[.int .i64 0, .int .i64 0, .slice none 0 0] 30 (0, 0)) ∧
    Rd wx v zs ∧ Below w.heap.size w wx

/-- A world in which the append of the row behind ⟨b, off⟩ is met; block g0 and block kb are known. -/
structure AvPre (base g0 kb b off s : Nat) (ro ko : Obj) (zs : List Int) (X : World) : Prop where
  own : X.ownsRow base 3 1 (.slice (some ⟨s, 0, none⟩) 0 0) 0 []
  cells : ∀ j, j < zs.length → X.cell? ⟨b, off + j, none⟩ = some (.int .i64 (zs.getD j 0))
  room : X.heap[g0]? = some ro
  kept : X.heap[kb]? = some ko
  ne0 : g0 ≠ s
  nek : kb ≠ s
  le : base ≤ X.heap.size
structure AvPost (base g0 kb s g cap : Nat) (ro ko : Obj) (zs : List Int) (X w3 : World) : Prop where
  own : w3.ownsRow base 3 1 (.slice (some ⟨g, 0, none⟩) zs.length cap) zs.length (zs.map (Value.int .i64))
  grown : X.grownBy w3 (some s)
  where' : g = s ∨ g = X.heap.size
  lt : g < w3.heap.size
  room : w3.heap[g0]? = some ro
  kept : w3.heap[kb]? = some ko

theorem av_app {ops : Array Oper} {o : Oper} {a : Act} {K : Act → World → Prop} {Q : Exit → Act → World → Prop} {E : Prop} {X : World} {base g0 kb b off s c : Nat} {ro ko : Obj} {zs : List Int} (hgd : o.guard = none)
    (ho : o.op = .call { callee := .builtin .append, args := #[.tmp 23, .tmp 25], argTypes := #[22, 22] })
    (hs : a.eval (.tmp 23) = .slice (some ⟨s, 0, none⟩) 0 0) (hx : a.eval (.tmp 25) = .slice (some ⟨b, off, none⟩) zs.length c) (h0 : 1 ≤ zs.length) (hl : zs.length ≤ 1048576)
    (hp : AvPre base g0 kb b off s ro ko zs X)
    (h : ∀ g cap w3, AvPost base g0 kb s g cap ro ko zs X w3 → K (a.put o.dst (.slice (some ⟨g, 0, none⟩) zs.length cap)) w3) :
    if Region.wanted o (yielded ops a.tmps) = true then Oper.wp Try.prog o a X K Q else E := by
  obtain ⟨i0, hi, hz0, hz1, hz2⟩ := info_parts infoInt
  refine step_append_lies X hgd (.tmp 23) (.tmp 25) 22 ho base 3 i0 (.int .i64 0) 1 8 Try.underlying22 hi hz0 hz1 hz2 rfl (by decide) _ 0 [] hs hp.own ⟨b, off, none⟩ zs.length c (zs.map (Value.int .i64)) hx (by simp) ?_ ?_ (by omega) (by unfold maxLen; omega) (by omega) hp.le _ rfl ?_
  · intro j u hu
    have e : (⟨b, off, none⟩ : Addr).add j = ⟨b, off + j, none⟩ := by unfold Addr.add; split <;> simp_all
    rw [List.getElem?_map] at hu
    by_cases hj : j < zs.length
    · rw [List.getElem?_eq_getElem hj] at hu
      injection hu with hu
      rw [e, hp.cells j hj, ← hu]
      simp [List.getD, List.getElem?_eq_getElem hj]
    · rw [List.getElem?_eq_none (by omega)] at hu; cases hu
  · intro u hu; obtain ⟨_, _, rfl⟩ := List.mem_map.1 hu; rfl
  · intro g cap w3 hown hgr hor hlt
    rw [Nat.zero_add] at *
    refine h g cap w3 ⟨by simpa using hown, hgr, ?_, hlt, ?_, ?_⟩
    · rcases hor with h | h
      · left; simpa [Value.ownBlock] using h.symm
      · exact .inr h
    · exact (hgr.block g0 (Array.getElem?_eq_some_iff.1 hp.room).1 (by simpa [Value.ownBlock] using hp.ne0)).trans hp.room
    · exact (hgr.block kb (Array.getElem?_eq_some_iff.1 hp.kept).1 (by simpa [Value.ownBlock] using hp.nek)).trans hp.kept

theorem own_exact {w : World} {base g n cap : Nat} {zs : List Int} (h : w.ownsRow base 3 1 (.slice (some ⟨g, 0, none⟩) n cap) zs.length (zs.map (Value.int .i64))) : Own w g (g + 1) (.slice (some ⟨g, 0, none⟩) n cap) zs ∧ base ≤ g ∧ g < w.heap.size := by
  obtain ⟨hl, h⟩ := h
  rcases h with ⟨e, _⟩ | ⟨g', cap', cur, e, hg, r⟩
  · cases e
  · have e1 : g' = g := by injection e with e1 e2 e3; injection e1 with e1; injection e1 with e1; exact e1.symm
    subst e1
    have hk : ∀ k, (Value.slice (some ⟨g', 0, none⟩) n cap).ownBlock = some k → k < g' + 1 := fun k hk => by
      have : g' = k := by injection hk
      omega
    exact ⟨⟨⟨hl, .inr ⟨g', cap', cur, e, Nat.le_refl _, r⟩⟩, hk⟩, hg, (Array.getElem?_eq_some_iff.1 r.1).1⟩

theorem av_end {w w' W : World} {sw cnt : Int} {v : Value} {zs : List Int} {g g3 cap3 : Nat} (hbw : Below w.heap.size w w') (hB : Below w'.heap.size w' W) (hs : w.heap.size + 2 ≤ w'.heap.size)
    (hg : W.heap[g]? = some (.cells #[.int .i64 sw, .int .i64 cnt, .slice (some ⟨g3, 0, none⟩) zs.length cap3] 30 (0, 0))) (hown : Own W g3 (g3 + 1) (.slice (some ⟨g3, 0, none⟩) zs.length cap3) zs) (hne : g ≠ g3)
    (hgl : w'.heap.size ≤ g) (hgl3 : w'.heap.size ≤ g3) (hlt : g3 < W.heap.size) (k1 : w'.heap[w.heap.size]? = some (.cells #[.int .i64 sw, .int .i64 cnt, v] 30 (0, 0)))
    (k2 : w'.heap[w.heap.size + 1]? = some (.cells #[.int .i64 0, .int .i64 0, .slice none 0 0] 30 (0, 0))) (hR : Rd w' v zs) :
    AvCut w W sw cnt v zs (.pointer (some ⟨g, 0, none⟩)) :=
  ⟨g, g3, g3 + 1, _, cap3, rfl, hg, hown, by omega, by omega, by omega, by omega, (hB.block _ (by omega)).trans k1, (hB.block _ (by omega)).trans k2, hR.below hB, hbw.trans (hB.mono (by omega))⟩

theorem av_alloc {w w' X w3 : World} {sw cnt : Int} {v : Value} {zs : List Int} {kb s g3 cap3 : Nat} {ro ko : Obj} (hp : AvPost w'.heap.size w.heap.size kb s g3 cap3 ro ko zs X w3) (hX : Below w'.heap.size w' X) (hss : w'.heap.size ≤ s)
    (hbw : Below w.heap.size w w') (hs : w.heap.size + 2 ≤ w'.heap.size) (k1 : w'.heap[w.heap.size]? = some (.cells #[.int .i64 sw, .int .i64 cnt, v] 30 (0, 0)))
    (k2 : w'.heap[w.heap.size + 1]? = some (.cells #[.int .i64 0, .int .i64 0, .slice none 0 0] 30 (0, 0))) (hR : Rd w' v zs) :
    AvCut w (w3.alloc (.cells #[.int .i64 sw, .int .i64 cnt, .slice (some ⟨g3, 0, none⟩) zs.length cap3] 30)) sw cnt v zs (.pointer (some ⟨w3.heap.size, 0, none⟩)) := by
  have hB3 : Below w'.heap.size w' w3 := hX.grown hp.grown hX.size (fun k hk => by injection hk with hk; omega)
  obtain ⟨ho, h1, h2⟩ := own_exact hp.own
  exact av_end hbw (hB3.alloc hB3.size _) hs (heap_alloc_new _ _) (ho.keep fun g _ hg => Below.heap_alloc _ _ _ (by omega)) (by omega) hB3.size h1 (by simp; omega) k1 k2 hR

theorem av_store {w w' X w3 : World} {sw cnt : Int} {v : Value} {zs : List Int} {kb s g3 cap3 : Nat} {ro : Obj} (hp : AvPost w'.heap.size w.heap.size kb s g3 cap3 ro (.cells #[.int .i64 0, .int .i64 0, .slice none 0 0] 30 (0, 0)) zs X w3) (hX : Below w'.heap.size w' X) (hss : w'.heap.size ≤ s)
    (hkb : w'.heap.size ≤ kb) (hks : kb ≠ s) (hkx : kb < X.heap.size)
    (hbw : Below w.heap.size w w') (hs : w.heap.size + 2 ≤ w'.heap.size) (k1 : w'.heap[w.heap.size]? = some (.cells #[.int .i64 sw, .int .i64 cnt, v] 30 (0, 0)))
    (k2 : w'.heap[w.heap.size + 1]? = some (.cells #[.int .i64 0, .int .i64 0, .slice none 0 0] 30 (0, 0))) (hR : Rd w' v zs) :
    AvCut w (((w3.setCell ⟨kb, 0, none⟩ (.int .i64 sw)).setCell ⟨kb, 1, none⟩ (.int .i64 cnt)).setCell ⟨kb, 2, none⟩ (.slice (some ⟨g3, 0, none⟩) zs.length cap3)) sw cnt v zs (.pointer (some ⟨kb, 0, none⟩)) := by
  have hB3 : Below w'.heap.size w' w3 := hX.grown hp.grown hX.size (fun k hk => by injection hk with hk; omega)
  obtain ⟨ho, h1, h2⟩ := own_exact hp.own
  obtain ⟨t1, t2, t3⟩ := set3 hp.kept (.int .i64 sw) (.int .i64 cnt) (.slice (some ⟨g3, 0, none⟩) zs.length cap3)
  have hne : kb ≠ g3 := by rcases hp.where' with h | h <;> omega
  exact av_end hbw (below_turned hB3 t2 hkb hB3.size) hs t1 (ho.turned t2 (by omega) (by omega)) hne hkb h1 (by omega) k1 k2 hR

theorem av_fin {w wc Y : World} {g lo hi : Nat} {x y v x0 y0 z0 : Value} {zs : List Int} (hbx : Below w.heap.size w wc) (hg : w.heap.size + 2 ≤ g) (hlo : w.heap.size + 2 ≤ lo) (hhi : hi ≤ wc.heap.size) (hv : Visited g lo hi wc Y) (hY : Own Y lo hi v zs)
    (k2 : wc.heap[w.heap.size + 1]? = some (.cells #[x0, y0, z0] 30 (0, 0))) :
    ((((Y.setCell ⟨w.heap.size + 1, 0, none⟩ x).setCell ⟨w.heap.size + 1, 1, none⟩ y).setCell ⟨w.heap.size + 1, 2, none⟩ v).heap[w.heap.size + 1]? = some (.cells #[x, y, v] 30 (0, 0))) ∧
    Own (((Y.setCell ⟨w.heap.size + 1, 0, none⟩ x).setCell ⟨w.heap.size + 1, 1, none⟩ y).setCell ⟨w.heap.size + 1, 2, none⟩ v) w.heap.size (((Y.setCell ⟨w.heap.size + 1, 0, none⟩ x).setCell ⟨w.heap.size + 1, 1, none⟩ y).setCell ⟨w.heap.size + 1, 2, none⟩ v).heap.size v zs ∧
    Below w.heap.size w (((Y.setCell ⟨w.heap.size + 1, 0, none⟩ x).setCell ⟨w.heap.size + 1, 1, none⟩ y).setCell ⟨w.heap.size + 1, 2, none⟩ v) := by
  have hk : Y.heap[w.heap.size + 1]? = some (.cells #[x0, y0, z0] 30 (0, 0)) := (hv.block _ (by omega) (.inl (by omega))).trans k2
  obtain ⟨t1, t2, t3⟩ := set3 hk x y v
  have hs := hv.size
  exact ⟨t1, (hY.turned t2 (by omega) (.inr (by omega))).wide (by omega) (by omega), below_turned (visited_below hbx hv (by omega) (by omega)) t2 (by omega) (by have := hbx.size; omega)⟩

theorem av_two {wc : World} {g lo hi : Nat} {x y z x' y' v : Value} {zs : List Int} (hg : wc.heap[g]? = some (.cells #[x, y, z] 30 (0, 0))) (ho : Own wc lo hi v zs) (hd : g < lo ∨ hi ≤ g) :
    Visited g lo hi wc ((wc.setCell ⟨g, 0, none⟩ x').setCell ⟨g, 1, none⟩ y') ∧ Own ((wc.setCell ⟨g, 0, none⟩ x').setCell ⟨g, 1, none⟩ y') lo hi v zs ∧ ((wc.setCell ⟨g, 0, none⟩ x').setCell ⟨g, 1, none⟩ y').heap[g]? = some (.cells #[x', y', z] 30 (0, 0)) := by
  have q1 := heap_setCell_same wc g 0 _ _ x' hg
  have q2 := heap_setCell_same _ g 1 _ _ y' q1
  have hq : ∀ k, k ≠ g → ((wc.setCell ⟨g, 0, none⟩ x').setCell ⟨g, 1, none⟩ y').heap[k]? = wc.heap[k]? := fun k hk => by
    rw [heap_setCell_other _ ⟨g, 1, none⟩ k _ hk, heap_setCell_other _ ⟨g, 0, none⟩ k _ hk]
  exact ⟨⟨rfl, rfl, rfl, by simp, fun k hk _ => hq k hk⟩, ho.keep fun k _ _ => hq k (by omega), by simpa using q2⟩

theorem av_hit {wc : World} {g lo hi : Nat} {x y : Value} {b c p : Nat} {zs : List Int} (hg : wc.heap[g]? = some (.cells #[x, y, .slice (some ⟨b, 0, none⟩) zs.length c] 30 (0, 0))) (ho : Own wc lo hi (.slice (some ⟨b, 0, none⟩) zs.length c) zs) (hd : g < lo ∨ hi ≤ g) (hb : lo ≤ b ∧ b < hi) :
    Visited g lo hi wc ((wc.setCell ⟨g, 0, none⟩ (.int .i64 1)).setCell ⟨b, p, none⟩ (.int .i64 1)) ∧ Own ((wc.setCell ⟨g, 0, none⟩ (.int .i64 1)).setCell ⟨b, p, none⟩ (.int .i64 1)) lo hi (.slice (some ⟨b, 0, none⟩) zs.length c) (zs.set p 1) ∧
    ((wc.setCell ⟨g, 0, none⟩ (.int .i64 1)).setCell ⟨b, p, none⟩ (.int .i64 1)).heap[g]? = some (.cells #[.int .i64 1, y, .slice (some ⟨b, 0, none⟩) zs.length c] 30 (0, 0)) := by
  have q1 := heap_setCell_same wc g 0 _ _ (.int .i64 1) hg
  have o1 : Own (wc.setCell ⟨g, 0, none⟩ (.int .i64 1)) lo hi (.slice (some ⟨b, 0, none⟩) zs.length c) zs := ho.keep (fun k h1 h2 => heap_setCell_other wc ⟨g, 0, none⟩ k _ (by show k ≠ g; omega))
  have o2 := o1.1.stored p (.int .i64 1)
  refine ⟨⟨rfl, rfl, rfl, by simp, fun k h1 h2 => ?_⟩, ⟨?_, ho.2⟩, (heap_setCell_other _ ⟨b, p, none⟩ g _ (by show g ≠ b; omega)).trans (by simpa using q1)⟩
  · rw [heap_setCell_other _ ⟨b, p, none⟩ k _ (by show k ≠ b; omega), heap_setCell_other wc ⟨g, 0, none⟩ k _ h1]
  · rw [List.length_set, List.map_set]; exact o2.1
end Go.Proofs.Ytnpfjpihcdlmhaa

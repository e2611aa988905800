/- orders and OrdersWon of the program: the walks. -/
import Derived.Test.YtdpijiccolbljaaOrdP
import Derived.Test.YtdpijiccolbljaaClone
import Derived.Deep.RegionHeld3
import Derived.Deep.RegionWith
import Derived.Laws.EntriesVeiled
namespace Go.Proofs.Ytdpijiccolbljaa
open Go.RowKit

theorem blk1 {W : World} {g : Nat} {x : Value} {ty : TypeId} (h : W.heap[g]? = some (.cells #[x] ty (0, 0))) : W.cell? ⟨g, 0, none⟩ = some x ∧ W.frozen? ⟨g, 0, none⟩ = false ∧ g < W.heap.size :=
  ⟨by rw [cell_of_row W g 0 _ _ _ h]; rfl, frozen_of_row W g 0 _ _ h, (Array.getElem?_eq_some_iff.1 h).1⟩
def nextV (b : Nat) : Value := .func (.func 65) #[] #[.pointer (some ⟨b + 4, 0, none⟩), .pointer (some ⟨b + 2, 0, none⟩), .pointer (some ⟨b + 3, 0, none⟩), .pointer (some ⟨b + 5, 0, none⟩)]
def withV (b : Nat) : Value := .func (.func 56) #[] #[.pointer (some ⟨b, 0, none⟩), .pointer (some ⟨b + 1, 0, none⟩)]
/-- Memory within the walk over the orders: six blocks, and the order's own row behind them. -/
structure OrdSt (w : World) (n : Nat) (t : Int) (v : Value) (pre : List Nat) (won : Nat) (W : World) : Prop where
  bel : Below w.heap.size w W
  kt : W.heap[w.heap.size]? = some (.cells #[.int .i64 t] 3 (0, 0))
  kw : W.heap[w.heap.size + 1]? = some (.cells #[.int .i64 (won : Int)] 3 (0, 0))
  km : W.heap[w.heap.size + 2]? = some (.cells #[.int .i64 (n : Int)] 3 (0, 0))
  kf : W.heap[w.heap.size + 3]? = some (.cells #[withV w.heap.size] 48 (0, 0))
  ko : W.heap[w.heap.size + 4]? = some (.cells #[v] 22 (0, 0))
  kn : W.heap[w.heap.size + 5]? = some (.cells #[nextV w.heap.size] 1 (0, 0))
  own : Own W (w.heap.size + 6) W.heap.size v (iz pre)

section
variable {w W W' : World} {n : Nat} {t : Int} {v v' : Value} {pre pre' : List Nat} {won won' : Nat}
theorem OrdSt.size (h : OrdSt w n t v pre won W) : w.heap.size + 5 < W.heap.size := (blk1 h.kn).2.2
theorem OrdSt.below (h : OrdSt w n t v pre won W) (hb : Below W.heap.size W W') : OrdSt w n t v pre won W' := by
  have hs := h.size
  obtain ⟨h1, h2, h3, h4, h5, h6, h7, h8⟩ := h
  exact ⟨h1.trans (hb.mono h1.size), (hb.block _ (by omega)).trans h2, (hb.block _ (by omega)).trans h3, (hb.block _ (by omega)).trans h4, (hb.block _ (by omega)).trans h5, (hb.block _ (by omega)).trans h6, (hb.block _ (by omega)).trans h7, (h8.below hb (Nat.le_refl _)).wide (Nat.le_refl _) hb.size⟩
theorem OrdSt.drew (h : OrdSt w n t v pre won W) : OrdSt w n t v pre won W.drew := ⟨h.bel.drew, h.kt, h.kw, h.km, h.kf, h.ko, h.kn, h.own.keep fun _ _ _ => rfl⟩
/-- One win more. -/
theorem OrdSt.win (h : OrdSt w n t v pre won W) (won' : Nat) : OrdSt w n t v pre won' (W.setCell ⟨w.heap.size + 1, 0, none⟩ (.int .i64 (won' : Int))) := by
  have hs := h.size
  obtain ⟨h1, h2, h3, h4, h5, h6, h7, h8⟩ := h
  have ho : ∀ k, k ≠ w.heap.size + 1 → (W.setCell ⟨w.heap.size + 1, 0, none⟩ (.int .i64 (won' : Int))).heap[k]? = W.heap[k]? := fun k hk => heap_setCell_other W ⟨w.heap.size + 1, 0, none⟩ k _ hk
  have ht : Turned (w.heap.size + 1) (w.heap.size + 2) W (W.setCell ⟨w.heap.size + 1, 0, none⟩ (.int .i64 (won' : Int))) := ⟨rfl, rfl, rfl, by simp, fun k _ hne => ho k (by omega)⟩
  exact ⟨below_turned h1 ht (by omega) h1.size, (ho _ (by omega)).trans h2, by simpa using heap_setCell_same W (w.heap.size + 1) 0 _ _ (.int .i64 (won' : Int)) h3, (ho _ (by omega)).trans h4, (ho _ (by omega)).trans h5, (ho _ (by omega)).trans h6, (ho _ (by omega)).trans h7, (h8.turned ht (Nat.le_refl _) (.inr (by omega))).wide (Nat.le_refl _) (by simp)⟩
/-- Another order laid into its cell. -/
theorem OrdSt.put (h : OrdSt w n t v pre won W) (ho : Own W' (w.heap.size + 6) W'.heap.size v' (iz pre')) (hb : ∀ k, k < w.heap.size + 6 → W'.heap[k]? = W.heap[k]?) (hbel : Below w.heap.size w W') : OrdSt w n t v' pre' won (W'.setCell ⟨w.heap.size + 4, 0, none⟩ v') := by
  obtain ⟨h1, h2, h3, h4, h5, h6, h7, h8⟩ := h
  have ho' : ∀ k, k ≠ w.heap.size + 4 → (W'.setCell ⟨w.heap.size + 4, 0, none⟩ v').heap[k]? = W'.heap[k]? := fun k hk => heap_setCell_other W' ⟨w.heap.size + 4, 0, none⟩ k _ hk
  have ht : Turned (w.heap.size + 4) (w.heap.size + 5) W' (W'.setCell ⟨w.heap.size + 4, 0, none⟩ v') := ⟨rfl, rfl, rfl, by simp, fun k _ hne => ho' k (by omega)⟩
  have hsz := hbel.size
  exact ⟨below_turned hbel ht (by omega) hsz, (ho' _ (by omega)).trans ((hb _ (by omega)).trans h2), (ho' _ (by omega)).trans ((hb _ (by omega)).trans h3), (ho' _ (by omega)).trans ((hb _ (by omega)).trans h4), (ho' _ (by omega)).trans ((hb _ (by omega)).trans h5), by simpa using heap_setCell_same W' (w.heap.size + 4) 0 _ _ v' ((hb _ (by omega)).trans h6), (ho' _ (by omega)).trans ((hb _ (by omega)).trans h7), (ho.turned ht (Nat.le_refl _) (.inr (by omega))).wide (Nat.le_refl _) (by simp)⟩
end

/-- A row of the call's own, cut at its end. -/
theorem Own.init {w : World} {lo hi n c : Nat} {a : Option Addr} {ns : List Nat} {k : Nat} (h : Own w lo hi (.slice a (n + 1) c) (iz (ns ++ [k]))) (hn : n = ns.length) : Own w lo hi (.slice a n c) (iz ns) := by
  subst hn
  obtain ⟨⟨hl, h⟩, hb⟩ := h
  have e1 : (iz (ns ++ [k])).length = ns.length + 1 := by rw [length_iz]; simp
  rw [e1] at hl h
  refine ⟨⟨by simp, ?_⟩, fun q hq => hb q (by cases a <;> exact hq)⟩
  rcases h with ⟨_, h0⟩ | ⟨g, cap, cur, e, hg, hh, hn, hm, hsz, ht⟩
  · omega
  · injection e with e2 e3 e4
    subst e2 e4
    refine .inr ⟨g, c, cur, by rw [length_iz], hg, hh, by rw [length_iz]; omega, hm, hsz, ?_⟩
    have h2 := congrArg (List.take (ns.length * 1)) ht
    rw [List.take_take, show min (ns.length * 1) ((ns.length + 1) * 1) = ns.length * 1 by omega] at h2
    rw [length_iz, h2, iz_append, List.map_append]
    rw [List.take_append_of_le_length (by simp [length_iz]), List.take_of_length_le (by simp [length_iz])]

set_option maxHeartbeats 1600000 in
set_option maxRecDepth 100000 in
theorem with_any (w : World) (n : Nat) (t : Int) (v : Value) (pre : List Nat) (won : Nat) (W : World) (h : OrdSt w n t v pre won W) (hP : Perm7 pre) (hw : won ≤ 1000000000) :
    Calls Try.prog 56 #[v, .pointer (some ⟨w.heap.size, 0, none⟩), .pointer (some ⟨w.heap.size + 1, 0, none⟩)] W fun e w' => e = .returned (.tuple #[]) ∧ OrdSt w n t v pre (won + winN t pre) w' := by
  obtain ⟨t0, -, tl⟩ := blk1 h.kt
  have hr := h.own.rd
  have HS := Lib.hid h
  clear h
  go_enter Try.func56, Try.ntmps56
  go_wp2_with fail
  go_region_held3 (fun wx => wx.cell? ⟨w.heap.size, 0, none⟩ = some (.int .i64 t)) (first | exact n0 | exact t0 | go_keep)
    (first | (go_at_call 49; refine (longest_any _ pre _ (by exact hr) hP).mono ?_; rintro e w7 ⟨rfl, b7⟩; have n0 := (b7.cell (p := ⟨w.heap.size, 0, none⟩) (by exact tl)).trans (by exact t0)))
  have hS7 : OrdSt w n t v pre won w7 := HS.out.drew.below b7
  obtain ⟨w0, w1, -⟩ := blk1 hS7.kw
  have HW := Lib.hid (hS7.win (won + 1))
  have HS7 := Lib.hid hS7
  have HWN : Hid (winN t pre = if (long pre : Int) ≤ t then 1 else 0) := rfl
  generalize long pre = L at *
  clear hS7 b7 n0 t0 tl hr
  by_cases hlt : (L : Int) ≤ t
  · have HWN1 : Hid (won + winN t pre = won + 1) := by unfold Hid; rw [HWN.out, if_pos hlt]
    go_wp2
    go_end0
    exact ⟨rfl, by rw [HWN1.out]; exact HW.out⟩
  · have HWN1 : Hid (won + winN t pre = won) := by unfold Hid; rw [HWN.out, if_neg hlt]; rfl
    go_wp2
    go_end0
    exact ⟨rfl, by rw [HWN1.out]; exact HS7.out⟩


theorem hasB_iz (k : Nat) (pre : List Nat) : hasB (k : Int) (iz pre) = hasN k pre := by
  rw [Bool.eq_iff_iff, hasB_iff, mem_iz, hasN_iff]

set_option maxHeartbeats 3200000 in
set_option maxRecDepth 100000 in
theorem next_any (w : World) (n : Nat) (t : Int) (hn : 1 ≤ n ∧ n ≤ 7) : ∀ (f : Nat) (v : Value) (pre : List Nat) (won : Nat) (W : World), OrdSt w n t v pre won W → pre.length + f = n → Pre n pre → won + 8 ^ f ≤ 100000000 →
    Calls Try.prog 65 #[.pointer (some ⟨w.heap.size + 4, 0, none⟩), .pointer (some ⟨w.heap.size + 2, 0, none⟩), .pointer (some ⟨w.heap.size + 3, 0, none⟩), .pointer (some ⟨w.heap.size + 5, 0, none⟩)] W fun e w' => e = .returned (.tuple #[]) ∧ ∃ v', OrdSt w n t v' pre (won + cntL t (permsF n f pre)) w' := by
  intro f
  induction f with
  | zero =>
    intro v pre won W h hf hp hb
    obtain ⟨x4, -, -⟩ := blk1 h.ko
    obtain ⟨x2, -, -⟩ := blk1 h.km
    obtain ⟨x3, -, -⟩ := blk1 h.kf
    unfold withV at x3
    have hP : Perm7 pre := ⟨by omega, by omega, hp.1, fun x hx => by have := hp.2 x hx; omega⟩
    obtain ⟨A, c, rfl⟩ := own_form h.own
    rw [length_iz] at h x4
    have hq : ((pre.length : Int) == (n : Int)) = true := by rw [← hf]; simp
    have HS := Lib.hid h
    have HP := Lib.hid hP
    have HZ : Hid (won + cntL t (permsF n 0 pre) = won + winN t pre) := rfl
    clear h hf hp hP
    go_enter Try.func65, Try.ntmps65
    go_wp2_with fail
    with_reducible refine (with_any w n t _ pre won W HS.out HP.out (by omega)).mono ?_
    rintro e w5 ⟨rfl, st⟩
    have HS5 := Lib.hid st
    clear st x4 x2 x3
    go_wp2
    exact bodyPost_ret (v := .tuple #[]) (by simp [results, Try.results65, go_sem]) rfl ⟨rfl, _, by rw [HZ.out]; exact HS5.out⟩
  | succ f ih =>
    intro v pre won W h hf hp hb
    obtain ⟨x4, -, -⟩ := blk1 h.ko
    obtain ⟨x2, -, -⟩ := blk1 h.km
    obtain ⟨A, c, rfl⟩ := own_form h.own
    rw [length_iz] at h x4
    have hq : ((pre.length : Int) == (n : Int)) = false := by rw [beq_eq_false_iff_ne]; omega
    have HS : Hid (OrdSt w n t (.slice A pre.length c) pre (won + cntL t (partF n f pre 0)) W) := h
    have HIH := Lib.hid ih
    have HP := Lib.hid hp
    have HF := Lib.hid hf
    have HBD := Lib.hid hb
    have HPB := Lib.hid (cntL_part_bd t n (by omega) f pre)
    clear h ih hp hf hb
    go_enter Try.func65, Try.ntmps65
    go_wp2_with fail
    go_loopg [13] n (fun g i wr => ∃ (k : Nat) (v' : Value), k ≤ n ∧ g = n - k ∧ i = .int .i64 k ∧ OrdSt w n t v' pre (won + cntL t (partF n f pre k)) wr)
    case atStart => exact ⟨0, _, Nat.zero_le _, rfl, rfl, HS.out⟩
    case round =>
      clear HS x4 x2
      obtain ⟨k, v', hk, rfl, rfl, st⟩ := hrel
      by_cases hlt : k < n
      · obtain ⟨x4, f4, -⟩ := blk1 st.ko
        obtain ⟨x5, -, -⟩ := blk1 st.kn
        unfold nextV at x5
        obtain ⟨A', c', rfl⟩ := own_form st.own
        rw [length_iz] at st x4
        have hr := st.own.rd
        have HST := Lib.hid st
        have HCP := Lib.hid (cntL_part t n f pre k)
        clear st
        go_wp2_with fail
        with_reducible refine (ContainsInt_any _ (iz pre) _ _ hr).mono ?_
        rintro e w' ⟨rfl, rfl⟩
        rw [hasB_iz]
        obtain ⟨hh, hhe⟩ : ∃ b, b = hasN k pre := ⟨_, rfl⟩
        rw [← hhe] at HCP ⊢
        have HH := Lib.hid hhe
        clear hhe hr
        rcases hh with _ | _
        · have ho := HST.out.own.1
          have hsz := HST.out.size
          have hpl : pre.length ≤ 7 := by have := HF.out; omega
          obtain ⟨i0, hi, hz0, hz1, hz2⟩ := info_parts infoInt
          rw [length_iz] at ho
          go_wp2_with (first | (at_builtin; go_loud (refine wpList_append_own _ rfl _ _ 22 rfl (w.heap.size + 6) 3 i0 (.int .i64 0) 1 8 Try.underlying22 hi hz0 hz1 hz2 rfl (by decide) _ _ _ rfl (ho.alloc _) ⟨_, 0, none⟩ 1 1 [.int .i64 (k : Int)] rfl rfl (one_new _ _ _) ?c2 ?c3 ?c4 ?c5 ?_)) | go_in)
          case c2 => first | exact one_cell _ _ | rfl
          case c3 => unfold maxLen; omega
          case c4 => omega
          case c5 => first | omega | (simp; omega)
          intro v3 w3 hown' hgr _
          have hblk : ∀ q, q < w.heap.size + 6 → w3.heap[q]? = w'.heap[q]? := fun q hq2 => (hgr.block q (by simp <;> omega) (fun e => by have := (ho.lt q e.symm).1; omega)).trans (Below.heap_alloc _ _ _ (by omega))
          have hbel : Below w.heap.size w w3 := (HST.out.bel.alloc HST.out.bel.size _).grown hgr (by have := HST.out.bel.size; simp; omega) (fun q hq2 => by have := (ho.lt q hq2).1; omega)
          have o3 : Own w3 (w.heap.size + 6) w3.heap.size v3 (iz (pre ++ [k])) := Own.new (snoc_iz (by simpa [length_iz] using hown')) (Nat.le_refl _)
          have hput := HST.out.put o3 hblk hbel
          have x43 : w3.cell? ⟨w.heap.size + 4, 0, none⟩ = some (.slice A' pre.length c') := (World.cell?_of_block (a := ⟨w.heap.size + 4, 0, none⟩) (hblk (w.heap.size + 4) (by omega))).trans x4
          have f43 : w3.frozen? ⟨w.heap.size + 4, 0, none⟩ = false := (blk1 ((hblk (w.heap.size + 4) (by omega)).trans HST.out.ko)).2.1
          obtain ⟨A3, c3, rfl⟩ := own_form o3
          have hl3 : (iz (pre ++ [k])).length = pre.length + 1 := by rw [length_iz]; simp
          rw [hl3] at hput ⊢
          have HPUT := Lib.hid hput
          have x53 := (blk1 hput.kn).1
          unfold nextV at x53
          have HBW : Hid (won + cntL t (partF n f pre k) + 8 ^ f ≤ 100000000) := by
            have h1 := HPB.out k
            have h2 := HBD.out
            have h3 : (k + 1) * 8 ^ f ≤ 8 * 8 ^ f := Nat.mul_le_mul_right _ (by omega)
            have e1 : (k + 1) * 8 ^ f = k * 8 ^ f + 8 ^ f := by rw [Nat.add_mul, Nat.one_mul]
            have e2 : 8 ^ (f + 1) = 8 * 8 ^ f := Nat.pow_succ'
            unfold Hid; omega
          clear hown' hgr ho o3 hput hblk hbel hz0 hz1 hz2 hi hl3 x4 f4 x5
          go_wp2_with fail
          with_reducible refine (HIH.out _ (pre ++ [k]) _ _ HPUT.out (by have := HF.out; simp; omega) (pre_snoc HP.out hlt HH.out.symm) HBW.out).mono ?_
          rintro e w5 ⟨rfl, v5, st5⟩
          obtain ⟨A5, c5, rfl⟩ := own_form st5.own
          have hl5 : (iz (pre ++ [k])).length = pre.length + 1 := by rw [length_iz]; simp
          rw [hl5] at st5
          obtain ⟨y4, g4, -⟩ := blk1 st5.ko
          have hcap : pre.length + 1 ≤ c5 := by
            obtain ⟨_, _, e, h2, -, -⟩ := st5.own.rd
            injection e with e1 e2 e3
            rw [hl5] at h2; omega
          have hc0 : ¬ c5 = 0 := by omega
          have hkc : (pre.length : Int) ≤ c5 := by omega
          have hkc2 : pre.length ≤ c5 := by omega
          obtain ⟨g5, rfl⟩ := own_block st5.own (by rw [hl5]; omega)
          have hfin := st5.put (st5.own.init rfl) (fun _ _ => rfl) st5.bel
          have HFIN := Lib.hid hfin
          have HN : Hid (won + cntL t (partF n f pre (k + 1)) = won + cntL t (partF n f pre k) + cntL t (permsF n f (pre ++ [k]))) := by
            have := HCP.out
            simp only [Bool.false_eq_true, if_false] at this
            unfold Hid; rw [this]; omega
          clear st5 hfin HST HPUT HCP hl5 x43 f43 x53
          go_wp2
          go_roundg (n - (k + 1))
          case measure => omega
          case rel => exact ⟨k + 1, _, by omega, rfl, by go_num, by rw [HN.out]; exact HFIN.out⟩
        · have HN : Hid (won + cntL t (partF n f pre (k + 1)) = won + cntL t (partF n f pre k)) := by unfold Hid; rw [HCP.out]; rfl
          go_wp2
          go_roundg (n - (k + 1))
          case measure => omega
          case rel => exact ⟨k + 1, _, by omega, rfl, by go_num, by rw [HN.out]; exact HST.out⟩
      · have hk' : k = n := by omega
        subst hk'
        have HST := Lib.hid st
        clear st
        go_wp2
        go_end0
        exact ⟨rfl, _, by rw [← partF_all]; exact HST.out⟩
end Go.Proofs.Ytdpijiccolbljaa

/- ToldAfter and AfterVisits of the reference. -/
import Derived.Test.YtnpfjpihcdlmhaaAfter
namespace Go.Proofs.Ytnpfjpihcdlmhaa
open Go.RowKit

theorem stV_av {p : Int} {zs : List Int} {k : Nat} (hb : visB p zs = true) (h : k < zs.length) : (avSw (stV p zs k).1 (stV p zs k).2.1 (stV p zs k).2.2 (zs.getD k 0), avCnt (stV p zs k).1 (stV p zs k).2.1 (stV p zs k).2.2 (zs.getD k 0), avDone (stV p zs k).1 (stV p zs k).2.1 (stV p zs k).2.2 (zs.getD k 0)) = stV p zs (k + 1) := by
  obtain ⟨h1, h2⟩ := stV_len hb k (by omega)
  have hz := (visB_yes hb).2.2.2 (zs.getD k 0) (by simp [List.getD, List.getElem?_eq_getElem h])
  have h3 := (visB_yes hb).1
  have ha : avB (stV p zs k).1 (stV p zs k).2.1 (stV p zs k).2.2 (zs.getD k 0) = true := by
    unfold avB inB
    rw [h1, h2]
    simp only [Bool.true_and, Bool.and_eq_true, decide_eq_true_eq]
    omega
  rw [stV_succ p zs k h]
  unfold avSw avCnt avDone
  rw [if_pos ha, if_pos ha, if_pos ha]
  rfl

/-- Block g is a room of the call's own, its slice in a block from lo on, anywhere but g. -/
def RoomIn (lo g : Nat) (s : Int × Int × List Int) (w : World) : Prop :=
  ∃ A n c, w.heap[g]? = some (.cells #[.int .i64 s.1, .int .i64 s.2.1, .slice A n c] 30 (0, 0)) ∧ Own w lo w.heap.size (.slice A n c) s.2.2

theorem below_undrew {B : Nat} {a w : World} (h : Below B a.drew w) : Below B a w := ⟨h.os, h.tape, h.output, h.size, h.block⟩
theorem rd_drew {w : World} {v : Value} {zs : List Int} (h : Rd w v zs) : Rd w.drew v zs := h

/-- The visit's step: the world behind the store of the room that AfterVisit gave. -/
theorem room_in {lo g : Nat} {wr w3 : World} {s : Int × Int × List Int} {x y z : Value} {A : Option Addr} {n c : Nat} (hg : wr.heap[g]? = some (.cells #[x, y, z] 30 (0, 0))) (hb : Below wr.heap.size wr w3) (ho : Own w3 wr.heap.size w3.heap.size (.slice A n c) s.2.2) (hlo : lo ≤ wr.heap.size) :
    RoomIn lo g s (((w3.setCell ⟨g, 0, none⟩ (.int .i64 s.1)).setCell ⟨g, 1, none⟩ (.int .i64 s.2.1)).setCell ⟨g, 2, none⟩ (.slice A n c)) ∧ Turned g (g + 1) w3 (((w3.setCell ⟨g, 0, none⟩ (.int .i64 s.1)).setCell ⟨g, 1, none⟩ (.int .i64 s.2.1)).setCell ⟨g, 2, none⟩ (.slice A n c)) := by
  have hgl := (Array.getElem?_eq_some_iff.1 hg).1
  obtain ⟨t1, t2, t3⟩ := set3 ((hb.block _ hgl).trans hg) (.int .i64 s.1) (.int .i64 s.2.1) (.slice A n c)
  exact ⟨⟨A, n, c, t1, (ho.turned t2 (Nat.le_refl _) (.inr (by omega))).wide hlo (by omega)⟩, t2⟩

def toldS (p : Int) (zs : List Int) : Int := if visB p zs then (match (List.range (zs.length + 1)).find? fun k => toldAt p zs k with | some k => (k : Int) | none => -1) else -1
theorem toldS_eq (p : Int) (zs : List Int) : toldS p zs = toldI p zs := by
  unfold toldS toldI
  cases hb : visB p zs
  · rfl
  · have h1 := (visB_yes hb).1
    rw [if_pos rfl, if_pos rfl, List.range_succ_eq_map, List.find?_cons]
    by_cases hp : p = 1
    · subst hp
      have : toldAt 1 zs 0 = true := by simp [toldAt, stV]
      rw [this, if_pos rfl]; rfl
    · have : toldAt p zs 0 = false := decide_eq_false (by show ¬ ((0 : Int) = p - 1); omega)
      rw [this, if_neg hp]
      unfold toldFrom
      rw [List.find?_map]
      cases hq : (List.range zs.length).find? (fun k => toldAt p zs (k + 1)) with
      | none => 
        have : List.find? ((fun k => toldAt p zs k) ∘ Nat.succ) (List.range zs.length) = none := hq
        rw [this]; rfl
      | some k =>
        have : List.find? ((fun k => toldAt p zs k) ∘ Nat.succ) (List.range zs.length) = some k := hq
        rw [this]
        show ((k + 1 : Nat) : Int) = (k : Int) + 1
        omega

set_option maxHeartbeats 800000 in
set_option maxRecDepth 100000 in
theorem specAfterVisits_any (v : Value) (zs : List Int) (p : Int) (w : World) (h : Rd w v zs) (hp : -9223372036854775808 ≤ p ∧ p ≤ 9223372036854775807) :
    Calls Try.prog 40 #[.int .i64 p, v] w fun e w' => ∃ v', e = .returned (.agg #[.int .i64 (roomI p zs).1, .int .i64 (roomI p zs).2.1, v']) ∧ Own w' w.heap.size w'.heap.size v' (roomI p zs).2.2 ∧ Below w.heap.size w w' := by
  have hb0 : Below w.heap.size w (w.alloc (.cells #[.int .i64 0, .int .i64 0, .slice none 0 0] 30 (0, 0))) := (Below.refl _ _).alloc (Nat.le_refl _) _
  have hR : Rd (w.alloc (.cells #[.int .i64 0, .int .i64 0, .slice none 0 0] 30 (0, 0))) v zs := h.below hb0
  obtain ⟨a1, c1, rfl, l1, m1, r1⟩ := h
  go_enter Try.func40, Try.ntmps40
  go_wp2_with fail
  refine (specVisitsOk_any _ zs _ _ hR hp).mono ?_
  rintro e w1 ⟨rfl, rfl⟩
  have g0 : (w.alloc (.cells #[.int .i64 0, .int .i64 0, .slice none 0 0] 30 (0, 0))).heap[w.heap.size]? = _ := heap_alloc_new w _
  rcases Bool.eq_false_or_eq_true (visB p zs) with hb | hb
  · obtain ⟨h1, h2, h3, h4⟩ := visB_yes hb
    have hst := Lib.hid (fun k hk => stV_len hb k hk)
    have hav := Lib.hid (fun k hk => stV_av hb (k := k) hk)
    rw [hb]
    go_wp2_with fail
    refine (specRoomNew_any _ _).mono ?_
    rintro e w2 ⟨v2, rfl, o2, b2⟩
    obtain ⟨A, c, rfl⟩ := own_slice o2
    have HR := Lib.hid hR
    have s2 := b2.size
    rw [World.size_alloc] at s2 b2 o2
    have S2 := Lib.hid s2
    have B2 : Hid (∀ o, Below (w.heap.size + 1) (w.alloc (.cells #[.int .i64 0, .int .i64 0, .slice none 0 0] 30 (0, 0))) (w2.alloc o)) := fun o => b2.alloc (by omega) o
    have O2 : Hid (∀ o, Own (w2.alloc o) (w.heap.size + 1) (w2.alloc o).heap.size (.slice A (newDone p).length c) (newDone p)) := fun o => (o2.keep fun g _ hg => Below.heap_alloc _ _ _ hg).wide (Nat.le_refl _) (by simp)
    clear r1 hR o2 b2 s2 l1 m1 g0
    go_wp2
    go_loopw [6] (fun i wr => ∃ k : Nat, k ≤ zs.length ∧ i = .int .i64 k ∧ RoomIn (w.heap.size + 1) w2.heap.size (stV p zs k) wr ∧ Below (w.heap.size + 1) (w.alloc (.cells #[.int .i64 0, .int .i64 0, .slice none 0 0] 30 (0, 0))) wr) (fun i _ => zs.length - (intOf i).toNat)
    case atStart => exact ⟨0, Nat.zero_le _, rfl, ⟨A, _, c, heap_alloc_new _ _, O2.out _⟩, B2.out _⟩
    case round =>
      clear B2 O2
      obtain ⟨k, hk, rfl, ⟨A, n, c, hblk, hown⟩, hbel⟩ := hrel
      have hgl := (Array.getElem?_eq_some_iff.1 hblk).1
      have hsz := hbel.size
      rw [World.size_alloc] at hsz
      by_cases hlt : k < zs.length
      · obtain ⟨a2, c2, hq, l2, m2, r2⟩ := HR.out.below (w' := wr) (by simpa using hbel)
        injection hq with e1 e2 e3
        subst e1 e3
        obtain ⟨g1, o1, z, rfl, hg1, x1, HZ⟩ := rd_at r2 k hlt
        obtain ⟨hrb, hrl⟩ := hst.out k hk
        have hcn := (roomB_cnt hrb).2
        have hl5 := (roomB_yes hrb).2.1
        have hg1w : g1 < w.heap.size + 1 := by
          obtain ⟨a3, c3, hq3, _, _, r3⟩ := HR.out
          injection hq3 with e1 e2 e3
          obtain ⟨g2, o2, e4, hg4, _⟩ := r3 (by omega)
          rw [← e1] at e4
          injection e4 with e4
          injection e4 with e4 e5
          rw [World.size_alloc] at hg4
          omega
        have hne : w2.heap.size ≠ g1 := by have := S2.out; omega
        have HAV := Lib.hid (fun W hr => specAfterVisit_any (stV p zs k).1 (stV p zs k).2.1 (.slice A n c) (stV p zs k).2.2 z W hr (by omega) (by omega))
        obtain ⟨⟨e0, e1, e2⟩, f0, f1, f2, -⟩ := blk3 hblk
        clear r2 hrb hrl hcn hl5 hg1w
        go_wp2_with fail
        go_region_with (go_at_call 42; refine (HAV.out _ (rd_drew hown.rd)).mono ?_; rintro e w3 ⟨⟨A3, n3, c3, rfl, ho3⟩, b3⟩; have n1 := (b3.cell (p := ⟨g1, o1 + k, none⟩) hg1).trans x1; obtain ⟨⟨t0, t1, t2⟩, u0, u1, u2, uz⟩ := blk3 ((b3.block _ hgl).trans hblk); have HB3 := Lib.hid b3; have HO3 := Lib.hid ho3; clear b3 ho3)
        all_goals (
          have hB3 : Below wr.heap.size wr w3 := below_undrew HB3.out
          have hs3 := hB3.size
          have HR3 := Lib.hid (room_in (s := (avSw (stV p zs k).1 (stV p zs k).2.1 (stV p zs k).2.2 z, avCnt (stV p zs k).1 (stV p zs k).2.1 (stV p zs k).2.2 z, avDone (stV p zs k).1 (stV p zs k).2.1 (stV p zs k).2.2 z)) hblk hB3 HO3.out (by omega))
          have HB4 := Lib.hid (below_turned (hbel.trans (hB3.mono (by omega))) HR3.out.2 (by have := S2.out; omega) (by omega))
          clear hB3 hs3 hblk hown hbel x1 n1 t0 t1 t2
          go_wp2
          go_round
          case rel =>
            refine ⟨k + 1, by omega, by go_num, ?_, HB4.out⟩
            rw [← hav.out k hlt, ← HZ.out]
            exact HR3.out.1
          case measure => simp [intOf]; omega)
      · have hk' : k = zs.length := by omega
        subst hk'
        have hr : roomI p zs = stV p zs zs.length := by unfold roomI; rw [if_pos hb]
        have HE := Lib.hid hr
        have g0 : wr.heap[w.heap.size]? = _ := (hbel.block _ (by simp)).trans (heap_alloc_new w _)
        obtain ⟨⟨k0, k1, k2⟩, f0, f1, f2, kz⟩ := blk3 g0
        obtain ⟨⟨k3, k4, k5⟩, -, -, -, kz2⟩ := blk3 hblk
        have t0 := set3 g0 (.int .i64 (stV p zs zs.length).1) (.int .i64 (stV p zs zs.length).2.1) (.slice A n c)
        have hbe : Below w.heap.size w wr := ((Below.refl w.heap.size w).alloc (Nat.le_refl _) _).trans (hbel.mono (by omega))
        have HB := Lib.hid (below_turned hbe t0.2.1 (Nat.le_refl _) hbe.size)
        have HO := Lib.hid ((hown.turned t0.2.1 (Nat.le_refl _) (.inr (Nat.le_refl _))).wide (lo' := w.heap.size) (hi' := wr.heap.size) (by omega) (by omega))
        have HT := Lib.hid t0
        clear hblk hown hbel hbe t0 g0
        go_wp2
        obtain ⟨⟨j0, j1, j2⟩, -, -, -, -⟩ := blk3 HT.out.1
        refine bodyPost_ret (v := .agg #[.int .i64 (stV p zs zs.length).1, .int .i64 (stV p zs zs.length).2.1, .slice A n c]) (by simp [results, Try.results40, go_sem, j0, j1, j2]) rfl ?_
        rw [HE.out]
        exact ⟨_, rfl, by rw [HT.out.2.2]; exact HO.out, HB.out⟩
  · have e1 : roomI p zs = (0, 0, []) := by unfold roomI; rw [hb]; rfl
    rw [hb]
    have E1 := Lib.hid e1
    obtain ⟨⟨k0, k1, k2⟩, f0, f1, f2, kz⟩ := blk3 g0
    have HB := Lib.hid hb0
    clear e1 hb g0 hb0
    go_wp2
    refine bodyPost_ret (v := .agg #[.int .i64 0, .int .i64 0, .slice none 0 0]) (by simp [results, Try.results40, go_sem]) rfl ?_
    rw [E1.out]
    exact ⟨_, rfl, ⟨⟨rfl, .inl ⟨rfl, rfl⟩⟩, fun k hk => by cases hk⟩, HB.out⟩
end Go.Proofs.Ytnpfjpihcdlmhaa

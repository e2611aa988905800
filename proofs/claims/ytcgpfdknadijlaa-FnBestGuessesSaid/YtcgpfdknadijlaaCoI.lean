/- Ways at the implementation: how many numbers, what is needed. -/
import Derived.Test.YtcgpfdknadijlaaCoW
import Derived.Deep.RegionWith
namespace Go.Proofs.Ytcgpfdknadijlaa
open Go.RowKit

theorem TreeAt.drewN {W : World} {lo : Nat} {t : Wy} {v : Value} (h : TreeAt W lo t v) (n : Nat) : TreeAt (W.drewN n) lo t v := TreeAt.keep (W := W) (W' := W.drewN n) (Nat.le_refl _) (fun _ _ _ => rfl) h
theorem TreeAt.below {W W' : World} {lo B : Nat} {t : Wy} {v : Value} (h : TreeAt W lo t v) (hb : Below B W W') (hB : W.heap.size ≤ B) : TreeAt W' lo t v := h.keep (Nat.le_refl _) fun g _ hg => hb.block g (by omega)

set_option maxHeartbeats 1600000 in
set_option maxRecDepth 100000 in
theorem many_any (lo : Nat) : ∀ (t : Wy) (v : Value) (W : World), TreeAt W lo t v → t.size ≤ 1000 →
    Calls Try.prog 32 #[v] W fun e w' => e = .returned (.int .i64 (t.size : Int)) ∧ ∃ n, w' = W.drewN n := by
  intro t
  induction t with
  | leaf =>
    rintro v W rfl hs
    go_enter Try.func32, Try.ntmps32
    go_wp2
    go_ret
    exact ⟨rfl, 0, rfl⟩
  | node g b o ihb iho =>
    rintro v W ⟨k, u1, u2, -, rfl, hk, hb, ho⟩ hs
    simp only [Wy.size] at hs
    have T1 : Hid (∀ n, Calls Try.prog 32 #[.pointer u1] (W.drewN n) fun e w' => e = .returned (.int .i64 (b.size : Int)) ∧ ∃ m, w' = (W.drewN n).drewN m) := fun n => ihb _ (W.drewN n) (hb.drewN n) (by omega)
    have T2 : Hid (∀ n, Calls Try.prog 32 #[.pointer u2] (W.drewN n) fun e w' => e = .returned (.int .i64 (o.size : Int)) ∧ ∃ m, w' = (W.drewN n).drewN m) := fun n => iho _ (W.drewN n) (ho.drewN n) (by omega)
    obtain ⟨⟨-, c1, c2⟩, -, -, -, -⟩ := blk3 hk
    have HS : Hid (((Wy.node g b o).size : Int) = 1 + (b.size : Int) + (o.size : Int)) := by unfold Hid; simp only [Wy.size]; omega
    have hw1 : IntKind.i64.wrap (1 + (b.size : Int)) = 1 + (b.size : Int) := by rw [IntKind.wrap_i64]; omega
    have hw2 : IntKind.i64.wrap (1 + (b.size : Int) + (o.size : Int)) = 1 + (b.size : Int) + (o.size : Int) := by rw [IntKind.wrap_i64]; omega
    clear ihb iho hb ho hk
    generalize b.size = B at *
    generalize o.size = O at *
    go_enter Try.func32, Try.ntmps32
    go_wp2
    go_quiet ((first | (go_at_call 32; with_reducible exact Calls.quiet_of (T1.out _)) | (go_at_call 32; with_reducible exact Calls.quiet_of (T2.out _))))
    go_wp2
    go_ret
    exact ⟨ret_int HS.out.symm, _, rfl⟩

set_option maxHeartbeats 1600000 in
set_option maxRecDepth 100000 in
theorem needs_any (lo : Nat) (zs : List Int) (hz : ∀ z ∈ zs, 0 ≤ z ∧ z ≤ 50) (A : Value) : ∀ (t : Wy) (v : Value) (n m : Nat) (W : World), TreeAt W lo t v → Rd W A zs → t.In n m → m ≤ zs.length → t.size ≤ 1000 →
    Calls Try.prog 28 #[v, A] W fun e w' => e = .returned (.int .i64 (t.cost zs)) ∧ ∃ n, w' = W.drewN n := by
  intro t
  induction t with
  | leaf =>
    rintro v n m W rfl hr hin hm hs
    have T := Lib.hid (many_any lo .leaf (.pointer none) W rfl hs)
    clear hr
    go_enter Try.func28, Try.ntmps28
    go_wp2_with fail
    with_reducible refine T.out.mono ?_
    rintro e w' ⟨rfl, n, rfl⟩
    go_wp2
    go_ret
    exact ⟨rfl, _, rfl⟩
  | node g b o ihb iho =>
    rintro v n m W hv hr hin hm hs
    have T := Lib.hid (many_any lo (.node g b o) v W hv hs)
    obtain ⟨k, u1, u2, -, rfl, hk, hb, ho⟩ := hv
    have hsz : (Wy.node g b o).size = 1 + b.size + o.size := rfl
    have hgm : g < m := by have := hin.2.size; omega
    have T1 : Hid (∀ q, Calls Try.prog 28 #[.pointer u1, A] (W.drewN q) fun e w' => e = .returned (.int .i64 (b.cost zs)) ∧ ∃ m, w' = (W.drewN q).drewN m) := fun q => ihb _ n g (W.drewN q) (hb.drewN q) (hr.drewN q) hin.1 (by omega) (by omega)
    have T2 : Hid (∀ q, Calls Try.prog 28 #[.pointer u2, A] (W.drewN q) fun e w' => e = .returned (.int .i64 (o.cost zs)) ∧ ∃ m, w' = (W.drewN q).drewN m) := fun q => iho _ (g + 1) m (W.drewN q) (ho.drewN q) (hr.drewN q) hin.2 hm (by omega)
    obtain ⟨⟨c0, c1, c2⟩, -, -, -, -⟩ := blk3 hk
    have HC : Hid ((Wy.node g b o).cost zs = if b.size + o.size = 0 then 0 else zs.getD g 0 + max (b.cost zs) (o.cost zs)) := rfl
    have hcb := cost_nonneg hz b
    have hco := cost_nonneg hz o
    obtain ⟨a, c, rfl, l1, m1, r1⟩ := hr
    obtain ⟨ga, oa, z, rfl, hga, x1, HZ⟩ := rd_at r1 g (by omega)
    have hz' : 0 ≤ z ∧ z ≤ 50 := by
      rw [HZ.out]; exact hz _ (by simp [List.getD, List.getElem?_eq_getElem (show g < zs.length by omega)])
    have hg1 : (g : Int) < zs.length := by omega
    rw [← HZ.out] at HC
    rw [hsz] at T
    clear ihb iho hb ho hk r1 HZ hin
    generalize b.cost zs = cb at *
    generalize o.cost zs = co at *
    by_cases h0 : b.size + o.size = 0
    · rw [if_pos h0] at HC
      have e1 : ((1 + b.size + o.size : Nat) : Int) = 1 := by omega
      rw [e1] at T
      clear e1
      go_enter Try.func28, Try.ntmps28
      go_wp2_with fail
      with_reducible refine T.out.mono ?_
      rintro e w' ⟨rfl, q, rfl⟩
      go_wp2
      go_ret
      exact ⟨ret_int HC.out.symm, _, rfl⟩
    · rw [if_neg h0] at HC
      obtain ⟨s, hss⟩ : ∃ s : Nat, s = 1 + b.size + o.size := ⟨_, rfl⟩
      rw [← hss] at T
      have hs2 : ¬ (s : Int) < 2 := by omega
      obtain ⟨mx, hmx⟩ : ∃ mx, mx = max cb co := ⟨_, rfl⟩
      have hmb : 0 ≤ mx ∧ mx ≤ 50000 := by omega
      rw [← hmx] at HC
      have hw1 : IntKind.i64.wrap (z + mx) = z + mx := by rw [IntKind.wrap_i64]; omega
      have HMX := Lib.hid hmx
      have hmx2 : max cb co = mx := hmx.symm
      clear hss hmx
      go_enter Try.func28, Try.ntmps28
      go_wp2_with fail
      with_reducible refine T.out.mono ?_
      rintro e w' ⟨rfl, q, rfl⟩
      have T1' : Hid (∀ r, Calls Try.prog 28 #[.pointer u1, .slice (some ⟨ga, oa, none⟩) zs.length c] ((W.drewN q).drewN r) fun e w' => e = .returned (.int .i64 cb) ∧ ∃ m, w' = ((W.drewN q).drewN r).drewN m) := fun r => by rw [World.drewN_drewN]; exact T1.out _
      have T2' : Hid (∀ r, Calls Try.prog 28 #[.pointer u2, .slice (some ⟨ga, oa, none⟩) zs.length c] ((W.drewN q).drewN r) fun e w' => e = .returned (.int .i64 co) ∧ ∃ m, w' = ((W.drewN q).drewN r).drewN m) := fun r => by rw [World.drewN_drewN]; exact T2.out _
      obtain ⟨w8, hw8⟩ : ∃ w8, w8 = W.drewN q := ⟨_, rfl⟩
      have d0 : w8.cell? ⟨k, 0, none⟩ = some (.int .i64 (g : Int)) := by rw [hw8]; exact c0
      have d1 : w8.cell? ⟨k, 1, none⟩ = some (.pointer u1) := by rw [hw8]; exact c1
      have d2 : w8.cell? ⟨k, 2, none⟩ = some (.pointer u2) := by rw [hw8]; exact c2
      have y1 : w8.cell? ⟨ga, oa + g, none⟩ = some (.int .i64 z) := by rw [hw8]; exact x1
      rw [← hw8] at T1' T2' ⊢
      have HW8 := Lib.hid hw8
      clear hw8 c0 c1 c2 x1 T1 T2 T
      go_wp2_with fail
      go_quiet ((first | (go_at_call 28; with_reducible exact Calls.quiet_of (T1'.out _)) | (go_at_call 28; with_reducible exact Calls.quiet_of (T2'.out _))))
      all_goals go_wp2
      all_goals go_ret
      all_goals exact ⟨ret_int (by rw [HC.out]; omega), _, by rw [HW8.out, World.drewN_drewN]⟩

/-- The way of so many numbers that a text is. -/
def okW (M : Nat) (l : List UInt8) : Option Wy := match pw l.length 0 l with
  | some (t, r, m) => if r = [] ∧ m = M then some t else none
  | none => none

set_option maxHeartbeats 1600000 in
set_option maxRecDepth 100000 in
theorem wayOf_any (M : Nat) (l : List UInt8) (W : World) (hM : M ≤ 9) (hl : l.length ≤ 60) :
    Calls Try.prog 27 #[.int .i64 (M : Int), .string (tx l)] W fun e w' => (∃ v, e = .returned (.tuple #[.pointer v, .bool (okW M l).isSome]) ∧ ∀ t, okW M l = some t → TreeAt w' W.heap.size t (.pointer v)) ∧ Below W.heap.size W w' := by
  obtain ⟨W1, hW1⟩ : ∃ W1, W1 = W.alloc (.cells #[.string (tx l), .int .i64 0, .bool false] 71) := ⟨_, rfl⟩
  have hr1 : Rdw W1 W.heap.size l 0 false := by rw [hW1]; exact heap_alloc_new _ _
  have hb1 : Below W.heap.size W W1 := by rw [hW1]; exact (Below.refl _ _).alloc (Nat.le_refl _) _
  have hs1 : W1.heap.size = W.heap.size + 1 := by rw [hW1]; simp
  have T := Lib.hid (way_any W.heap.size l.length l 0 false W1 hr1 (Nat.le_refl _) (by omega) (by omega))
  have HW1 := Lib.hid hW1
  have HB1 := Lib.hid hb1
  have hsz : (tx l).size = l.length := tx_size l
  have hg : decide ((60 : Int) < ((tx l).size : Int)) = false := by rw [hsz]; simp; omega
  have hg' : decide (60 < (tx l).size) = false := by rw [hsz]; simp; omega
  have HS1 := Lib.hid hs1
  have HOK : Hid (okW M l = match pw l.length 0 l with
      | some (t, r, m) => if r = [] ∧ m = M then some t else none
      | none => none) := rfl
  clear hW1 hr1 hb1 hsz hs1
  generalize tx l = S at *
  go_enter Try.func27, Try.ntmps27
  go_wp2_with fail
  rw [← HW1.out]
  with_reducible refine T.out.mono ?_
  rintro e w2 ⟨v, l', n', b', rfl, hr2, ht2, hn0, hn2, -, hp⟩
  have hp := hp rfl
  obtain ⟨⟨c0, c1, c2⟩, -, -, -, -⟩ := blk3 hr2
  have HB2 : Hid (Below W.heap.size W w2) := by
    refine below_turned HB1.out ht2 (Nat.le_refl _) HB1.out.size
  have HTR : Hid (∀ t, okW M l = some t → b' = false ∧ l' = [] ∧ n' = M ∧ TreeAt w2 W.heap.size t (.pointer v)) := by
    intro t ht
    rw [HOK.out] at ht
    cases hq : pw l.length 0 l with
    | none => rw [hq] at ht; cases ht
    | some q =>
      obtain ⟨t', r, m⟩ := q
      rw [hq] at ht hp
      obtain ⟨h1, h2, h3, h4⟩ := hp
      dsimp only at ht
      split at ht
      · rename_i hc
        injection ht with ht
        subst ht
        exact ⟨h1, by rw [h2]; exact hc.1, by rw [h3]; exact hc.2, TreeAt.keep (by rw [HS1.out]; omega) (fun _ _ _ => rfl) h4⟩
      · cases ht
  have HNO : Hid (b' = false → l' = [] → n' = M → (okW M l).isSome = true) := by
    intro h1 h2 h3
    rw [HOK.out]
    cases hq : pw l.length 0 l with
    | none =>
      rw [hq] at hp
      rcases hp with hp | hp
      · rw [h1] at hp; cases hp
      · omega
    | some q =>
      obtain ⟨t', r, m⟩ := q
      rw [hq] at hp
      obtain ⟨-, h5, h6, -⟩ := hp
      dsimp only
      rw [if_pos ⟨by rw [← h5]; exact h2, by rw [← h6]; exact h3⟩]; rfl
  have HF : Hid (¬ (b' = false ∧ l' = [] ∧ n' = M) → (okW M l).isSome = false) := by
    intro h
    cases ho : okW M l with
    | none => rfl
    | some t =>
      obtain ⟨h1, h2, h3, -⟩ := HTR.out t ho
      exact absurd ⟨h1, h2, h3⟩ h
  have hem : (tx l').toList.isEmpty = l'.isEmpty := tx_empty
  clear hp hr2 ht2
  cases b' with
  | true =>
    have HV : Hid ((okW M l).isSome = false) := HF.out (fun h => by cases h.1)
    clear hem
    generalize tx l' = S2 at *
    go_wp2
    go_quiet (fail)
    go_wp2
    refine bodyPost_ret (v := .tuple #[.pointer v, .bool false]) (by simp [results, Try.results27, go_sem]) rfl ?_
    exact ⟨⟨v, by rw [HV.out], fun t ht => (HTR.out t ht).2.2.2.drewN _⟩, below_drewN HB2.out _⟩
  | false =>
    by_cases hl0 : l' = []
    · have hem' : (tx l').toList.isEmpty = true := by rw [hem, hl0]; rfl
      clear hem
      by_cases hm : n' = M
      · have HV : Hid ((okW M l).isSome = true) := HNO.out rfl hl0 hm
        have q1 : ((n' : Int) == (M : Int)) = true := by rw [hm]; simp
        clear hl0 hm
        generalize tx l' = S2 at *
        go_wp2
        go_quiet (fail)
        go_wp2
        refine bodyPost_ret (v := .tuple #[.pointer v, .bool true]) (by simp [results, Try.results27, go_sem]) rfl ?_
        exact ⟨⟨v, by rw [HV.out], fun t ht => (HTR.out t ht).2.2.2.drewN _⟩, below_drewN HB2.out _⟩
      · have HV : Hid ((okW M l).isSome = false) := HF.out (fun h => hm h.2.2)
        have q1 : ((n' : Int) == (M : Int)) = false := by rw [beq_eq_false_iff_ne]; omega
        clear hl0 hm
        generalize tx l' = S2 at *
        go_wp2
        go_quiet (fail)
        go_wp2
        refine bodyPost_ret (v := .tuple #[.pointer v, .bool false]) (by simp [results, Try.results27, go_sem]) rfl ?_
        exact ⟨⟨v, by rw [HV.out], fun t ht => (HTR.out t ht).2.2.2.drewN _⟩, below_drewN HB2.out _⟩
    · have hem' : (tx l').toList.isEmpty = false := by
        rw [hem]
        cases l' with
        | nil => exact absurd rfl hl0
        | cons a b => rfl
      have HV : Hid ((okW M l).isSome = false) := HF.out (fun h => hl0 h.2.1)
      clear hem hl0
      generalize tx l' = S2 at *
      go_wp2
      go_quiet (fail)
      go_wp2
      refine bodyPost_ret (v := .tuple #[.pointer v, .bool false]) (by simp [results, Try.results27, go_sem]) rfl ?_
      exact ⟨⟨v, by rw [HV.out], fun t ht => (HTR.out t ht).2.2.2.drewN _⟩, below_drewN HB2.out _⟩
end Go.Proofs.Ytcgpfdknadijlaa

/- Reading a way, at the implementation. -/
import Derived.Test.YtcgpfdknadijlaaCoR
namespace Go.Proofs.Ytcgpfdknadijlaa
open Go.RowKit

/-- The value v is the way t, in blocks from lo on. -/
def TreeAt (W : World) (lo : Nat) : Wy → Value → Prop
  | .leaf, v => v = .pointer none
  | .node g b o, v => ∃ k u1 u2, lo ≤ k ∧ v = .pointer (some ⟨k, 0, none⟩) ∧ W.heap[k]? = some (.cells #[.int .i64 (g : Int), .pointer u1, .pointer u2] 62 (0, 0)) ∧ TreeAt W lo b (.pointer u1) ∧ TreeAt W lo o (.pointer u2)
theorem TreeAt.keep {W W' : World} {lo lo' : Nat} (hl : lo' ≤ lo) (hk : ∀ g, lo ≤ g → g < W.heap.size → W'.heap[g]? = W.heap[g]?) : ∀ {t : Wy} {v : Value}, TreeAt W lo t v → TreeAt W' lo' t v
  | .leaf, _, h => h
  | .node _ _ _, _, ⟨k, u1, u2, h1, h2, h3, h4, h5⟩ => ⟨k, u1, u2, by omega, h2, (hk k h1 (Array.getElem?_eq_some_iff.1 h3).1).trans h3, TreeAt.keep hl hk h4, TreeAt.keep hl hk h5⟩
theorem TreeAt.ptr {W : World} {lo : Nat} : ∀ {t : Wy} {v : Value}, TreeAt W lo t v → ∃ a, v = .pointer a
  | .leaf, _, h => ⟨none, h⟩
  | .node _ _ _, _, ⟨_, _, _, _, h2, _, _, _⟩ => ⟨_, h2⟩

def WayPost (f g n : Nat) (l : List UInt8) (bad : Bool) (W : World) (e : Ending) (w' : World) : Prop :=
  ∃ v l' n' bad', e = .returned (.pointer v) ∧ Rdw w' g l' n' bad' ∧ Turned g (g + 1) W w' ∧ n ≤ n' ∧ n' + l'.length ≤ n + l.length ∧ (bad = true → bad' = true) ∧
    (bad = false → match pw f n l with
      | some (t, r, m) => bad' = false ∧ l' = r ∧ n' = m ∧ TreeAt w' W.heap.size t (.pointer v)
      | none => bad' = true ∨ 10 ≤ n')

set_option maxRecDepth 100000 in
theorem way_dot (f g n : Nat) (c : UInt8) (r : List UInt8) (bad : Bool) (W : World) (h : Rdw W g (c :: r) n bad) (hl : (c :: r).length ≤ 1000) (hc : c.toNat = 46) :
    Calls Try.prog 40 #[.pointer (some ⟨g, 0, none⟩)] W (WayPost (f + 1) g n (c :: r) bad W) := by
  have TP := Lib.hid (HasPrefix_any (c :: r) W (by omega))
  have TE := Lib.hid (expect_46 g n (c :: r) bad W h (by omega))
  have e1 : (hd (c :: r) == 46) = true := by show (c.toNat == 46) = true; rw [hc]; rfl
  have e2 : (hd (c :: r) != 46 || bad) = bad := by show (c.toNat != 46 || bad) = bad; rw [hc]; rfl
  rw [e1] at TP
  rw [e2] at TE
  have HPW : Hid (pw (f + 1) n (c :: r) = some (.leaf, r, n)) := by unfold Hid; simp only [pw]; rw [if_pos hc]
  obtain ⟨⟨c0, -, -⟩, -, -, -, hg⟩ := blk3 h
  have hll : (c :: r).length = r.length + 1 := rfl
  clear h e1 e2
  generalize tx (c :: r) = S at *
  go_enter Try.func40, Try.ntmps40
  go_wp2_with fail
  with_reducible refine TP.out.mono ?_
  rintro e w' ⟨rfl, rfl⟩
  go_wp2_with fail
  with_reducible refine TE.out.mono ?_
  rintro e w2 ⟨rfl, hr, ht⟩
  have HR := Lib.hid hr
  have HT := Lib.hid ht
  clear hr ht
  go_wp2
  go_ret
  refine ⟨none, r, n, bad, rfl, HR.out, HT.out, Nat.le_refl _, by omega, fun h => h, fun _ => ?_⟩
  rw [HPW.out]
  rename_i hb
  exact ⟨hb, rfl, rfl, rfl⟩

set_option maxRecDepth 100000 in
theorem way_bad (f g n : Nat) (l : List UInt8) (bad : Bool) (W : World) (h : Rdw W g l n bad) (hl : l.length ≤ 1000) (hn : n ≤ 2000) (hc : hd l ≠ 46) (hb : hd l ≠ 40 ∨ bad = true ∨ 9 < n) :
    Calls Try.prog 40 #[.pointer (some ⟨g, 0, none⟩)] W (WayPost f g n l bad W) := by
  have TP := Lib.hid (HasPrefix_any l W (by omega))
  have TE := Lib.hid (expect_40 g n l bad W h (by omega))
  have e1 : (hd l == 46) = false := by rw [beq_eq_false_iff_ne]; exact hc
  rw [e1] at TP
  obtain ⟨b1, hb1⟩ : ∃ b1, b1 = (hd l != 40 || bad) := ⟨_, rfl⟩
  rw [← hb1] at TE
  have hb2 : b1 = true ∨ (b1 = false ∧ 9 < n) := by
    cases b1 with
    | true => exact .inl rfl
    | false =>
      refine .inr ⟨rfl, ?_⟩
      have h3 := hb1.symm
      rw [Bool.or_eq_false_iff] at h3
      rcases hb with h4 | h4 | h4
      · have := h3.1; rw [bne_iff_ne.2 h4] at this; cases this
      · rw [h4] at h3; exact absurd h3.2 (by decide)
      · exact h4
  have HPW : Hid (bad = false → pw f n l = none) := by
    intro hbad
    cases f with
    | zero => cases l <;> rfl
    | succ f =>
      cases l with
      | nil => rfl
      | cons c r =>
        have hc' : ¬ c.toNat = 46 := hc
        simp only [pw]
        rw [if_neg hc']
        by_cases h40 : c.toNat = 40
        · rw [if_pos h40]
          have hn9 : 9 < n := by
            rcases hb with h4 | h4 | h4
            · exact absurd h40 h4
            · rw [hbad] at h4; cases h4
            · exact h4
          cases hp : pw f n r with
          | none => rfl
          | some q =>
            obtain ⟨b, r1, g⟩ := q
            have := (pw_in f n r b r1 g hp).1.size
            show (if hd r1 = 48 + g ∧ g ≤ 9 then _ else none) = none
            rw [if_neg (by omega)]
        · rw [if_neg h40]
  obtain ⟨⟨c0, -, -⟩, -, -, -, hg⟩ := blk3 h
  have hlt : l.tail.length ≤ l.length := by rw [List.length_tail]; omega
  clear h e1 hb hb1
  generalize tx l = S at *
  go_enter Try.func40, Try.ntmps40
  go_wp2_with fail
  with_reducible refine TP.out.mono ?_
  rintro e w' ⟨rfl, rfl⟩
  go_wp2_with fail
  with_reducible refine TE.out.mono ?_
  rintro e w2 ⟨rfl, hr, ht⟩
  obtain ⟨⟨-, d1, d2⟩, -, -, f2, -⟩ := blk3 hr
  have HX : Hid (Rdw (w2.setCell ⟨g, 2, none⟩ (.bool true)) g l.tail n true ∧ Turned g (g + 1) w' (w2.setCell ⟨g, 2, none⟩ (.bool true))) := ⟨hr.put2 true, ht.trans (turned_set g 2 _)⟩
  clear hr ht
  rcases hb2 with rfl | ⟨rfl, hn9⟩
  · go_wp2
    go_ret
    refine ⟨none, l.tail, n, true, rfl, HX.out.1, HX.out.2, Nat.le_refl _, by omega, fun _ => rfl, fun hbad => ?_⟩
    rw [HPW.out hbad]
    exact .inl rfl
  · have hn9' : (9 : Int) < (n : Int) := by omega
    go_wp2
    go_ret
    refine ⟨none, l.tail, n, true, rfl, HX.out.1, HX.out.2, Nat.le_refl _, by omega, fun _ => rfl, fun hbad => ?_⟩
    rw [HPW.out hbad]
    exact .inl rfl

set_option maxHeartbeats 3200000 in
set_option maxRecDepth 100000 in
theorem way_node (f g n : Nat) (c : UInt8) (r : List UInt8) (W : World) (h : Rdw W g (c :: r) n false) (hl : (c :: r).length ≤ 500) (hf : r.length ≤ f) (hn : n ≤ 9) (hc : c.toNat = 40)
    (ih : ∀ (l : List UInt8) (n : Nat) (bad : Bool) (W : World), Rdw W g l n bad → l.length ≤ f → n + l.length ≤ 1000 → l.length ≤ 500 → Calls Try.prog 40 #[.pointer (some ⟨g, 0, none⟩)] W (WayPost f g n l bad W)) :
    Calls Try.prog 40 #[.pointer (some ⟨g, 0, none⟩)] W (WayPost (f + 1) g n (c :: r) false W) := by
  have hll : (c :: r).length = r.length + 1 := rfl
  have TP := Lib.hid (HasPrefix_any (c :: r) W (by omega))
  have TE := Lib.hid (expect_40 g n (c :: r) false W h (by omega))
  have e1 : (hd (c :: r) == 46) = false := by show (c.toNat == 46) = false; rw [hc]; rfl
  have e2 : (hd (c :: r) != 40 || false) = false := by show (c.toNat != 40 || false) = false; rw [hc]; rfl
  rw [e1] at TP
  rw [e2] at TE
  have HPW : Hid (pw (f + 1) n (c :: r) = match pw f n r with
      | none => none
      | some (b, r1, g) =>
        if hd r1 = 48 + g ∧ g ≤ 9 then
          match pw f (g + 1) r1.tail with
          | none => none
          | some (o, r2, m) => if hd r2 = 41 then some (.node g b o, r2.tail, m) else none
        else none) := by
    unfold Hid
    simp only [pw]
    rw [if_neg (by rw [hc]; decide), if_pos hc]
    rfl
  have HIH := Lib.hid ih
  obtain ⟨⟨c0, -, -⟩, -, -, -, hg⟩ := blk3 h
  clear h e1 e2 ih
  generalize tx (c :: r) = S at *
  go_enter Try.func40, Try.ntmps40
  go_wp2_with fail
  with_reducible refine TP.out.mono ?_
  rintro e w' ⟨rfl, rfl⟩
  go_wp2_with fail
  with_reducible refine TE.out.mono ?_
  rintro e w2 ⟨rfl, hr2, ht2⟩
  have hr2 : Rdw w2 g r n false := hr2
  obtain ⟨⟨-, d1, d2⟩, -, -, -, -⟩ := blk3 hr2
  have HR2 := Lib.hid hr2
  have HT2 := Lib.hid ht2
  have hn9' : ¬ (9 : Int) < (n : Int) := by omega
  clear hr2 ht2
  go_wp2_with fail
  with_reducible refine (HIH.out r n false w2 HR2.out hf (by omega) (by omega)).mono ?_
  rintro e w3 ⟨v3, l3, n3, b3, rfl, hr3, ht3, hn3, hl3, -, hp3⟩
  obtain ⟨⟨-, x1, -⟩, -, y1, -, -⟩ := blk3 hr3
  have HP3 := Lib.hid (hp3 rfl)
  obtain ⟨W4, hW4⟩ : ∃ W4, W4 = w3.setCell ⟨g, 1, none⟩ (.int .i64 ((n3 : Int) + 1)) := ⟨_, rfl⟩
  have HW4 := Lib.hid hW4
  have HR4 : Hid (Rdw W4 g l3 (n3 + 1) b3) := by unfold Hid; rw [hW4]; have := hr3.put1 (n3 + 1); rwa [Int.natCast_add] at this
  have HT4 : Hid (Turned g (g + 1) w2 W4) := by unfold Hid; rw [hW4]; exact ht3.trans (turned_set g 1 _)
  have HT24 := Lib.hid (HT2.out.trans HT4.out)
  have HK34 : Hid (∀ k, g < k → W4.heap[k]? = w3.heap[k]?) := fun k hk => by rw [hW4]; exact heap_setCell_other w3 ⟨g, 1, none⟩ k _ (by show k ≠ g; omega)
  have hs24 := HT4.out.size
  have hs34 : Hid (W4.heap.size = w3.heap.size) := by unfold Hid; rw [hW4]; simp
  have TE5 := Lib.hid (expect_any g (n3 + 1) l3 b3 (48 + n3 % 10) W4 HR4.out (by omega))
  rw [show ((48 + n3 % 10 : Nat) : Int) = 48 + (n3 : Int) % 10 by omega] at TE5
  clear hr3 ht3 hp3 hW4
  go_wp2_with fail
  rw [← HW4.out]
  with_reducible refine TE5.out.mono ?_
  rintro e w5 ⟨rfl, hr5, ht5⟩
  obtain ⟨B5, hB5⟩ : ∃ B5, B5 = (hd l3 != 48 + n3 % 10 || b3) := ⟨_, rfl⟩
  rw [← hB5] at hr5
  have HB5 := Lib.hid hB5
  have HR5 := Lib.hid hr5
  have HT5 := Lib.hid (HT24.out.trans ht5)
  have HT45 := Lib.hid ht5
  have hl5 : l3.tail.length ≤ l3.length := by rw [List.length_tail]; omega
  clear hr5 ht5 hB5
  go_wp2_with fail
  with_reducible refine (HIH.out l3.tail (n3 + 1) B5 w5 HR5.out (by omega) (by omega) (by omega)).mono ?_
  rintro e w6 ⟨v6, l6, n6, b6, rfl, hr6, ht6, hn6, hl6, hb6, hp6⟩
  have HP6 := Lib.hid hp6
  have HB6 := Lib.hid hb6
  have HT6 := Lib.hid (HT5.out.trans ht6)
  have HT56 := Lib.hid ht6
  have TE7 := Lib.hid (expect_41 g n6 l6 b6 w6 hr6 (by omega))
  clear hr6 ht6 hp6 hb6
  go_wp2_with fail
  with_reducible refine TE7.out.mono ?_
  rintro e w7 ⟨rfl, hr7, ht7⟩
  have HR7 := Lib.hid hr7
  have HT7 := Lib.hid (HT6.out.trans ht7)
  have HT67 := Lib.hid ht7
  have hl7 : l6.tail.length ≤ l6.length := by rw [List.length_tail]; omega
  clear hr7 ht7
  go_wp2
  go_ret
  have hs2 := HT2.out.size
  have hs3 := hs34.out
  have hs45 := HT45.out.size
  have hs56 := HT56.out.size
  have hs67 := HT67.out.size
  refine ⟨some ⟨w7.heap.size, 0, none⟩, l6.tail, n6, (hd l6 != 41 || b6), rfl, (Below.heap_alloc _ _ _ (by omega)).trans HR7.out, ⟨HT7.out.os, HT7.out.tape, HT7.out.output, by have := HT7.out.size; simp; omega, fun k hk hh => (Below.heap_alloc _ _ _ (by omega)).trans (HT7.out.block k hk hh)⟩, by omega, by omega, ?_, fun _ => ?_⟩
  · intro h; cases h
  rw [HPW.out]
  have h3 := HP3.out
  have hB6 : B5 = true → (hd l6 != 41 || b6) = true := fun h => by rw [HB6.out h, Bool.or_true]
  cases hp : pw f n r with
  | none =>
    rw [hp] at h3
    dsimp only
    rcases h3 with h3 | h3
    · exact .inl (hB6 (by rw [HB5.out, h3, Bool.or_true]))
    · exact .inr (by omega)
  | some q =>
    obtain ⟨b, r1, G⟩ := q
    rw [hp] at h3
    obtain ⟨rfl, rfl, rfl, ht3⟩ := h3
    dsimp only
    by_cases hg9 : hd l3 = 48 + n3 ∧ n3 ≤ 9
    · rw [if_pos hg9]
      have hB5 : B5 = false := by
        rw [HB5.out, Bool.or_false, show n3 % 10 = n3 by omega, hg9.1]; simp
      have h6 := HP6.out hB5
      cases hq : pw f (n3 + 1) l3.tail with
      | none =>
        rw [hq] at h6
        dsimp only
        rcases h6 with h6 | h6
        · exact .inl (by rw [h6, Bool.or_true])
        · exact .inr h6
      | some q =>
        obtain ⟨o, r2, m⟩ := q
        rw [hq] at h6
        obtain ⟨rfl, rfl, rfl, ht6⟩ := h6
        dsimp only
        by_cases h41 : hd l6 = 41
        · rw [if_pos h41]
          refine ⟨by rw [h41]; rfl, rfl, rfl, w7.heap.size, v3, v6, by omega, rfl, heap_alloc_new _ _, ?_, ?_⟩
          · refine TreeAt.keep hs2 (fun k hk1 hk2 => ?_) ht3
            rw [Below.heap_alloc _ _ _ (by omega), HT67.out.block k (by omega) (.inr (by omega)), HT56.out.block k (by omega) (.inr (by omega)), HT45.out.block k (by omega) (.inr (by omega)), HK34.out k (by omega)]
          · refine TreeAt.keep (by omega) (fun k hk1 hk2 => ?_) ht6
            rw [Below.heap_alloc _ _ _ (by omega), HT67.out.block k (by omega) (.inr (by omega))]
        · rw [if_neg h41]
          exact .inl (by rw [bne_iff_ne.2 h41]; rfl)
    · rw [if_neg hg9]
      by_cases h9 : n3 ≤ 9
      · refine .inl (hB6 ?_)
        rw [HB5.out, Bool.or_false, bne_iff_ne, show n3 % 10 = n3 by omega]
        exact fun e => hg9 ⟨e, h9⟩
      · exact .inr (by omega)

theorem way_any (g : Nat) : ∀ (f : Nat) (l : List UInt8) (n : Nat) (bad : Bool) (W : World), Rdw W g l n bad → l.length ≤ f → n + l.length ≤ 1000 → l.length ≤ 500 → Calls Try.prog 40 #[.pointer (some ⟨g, 0, none⟩)] W (WayPost f g n l bad W) := by
  intro f
  induction f with
  | zero =>
    intro l n bad W h hf hn hl5
    have hl : l.length ≤ 1000 := by omega
    obtain rfl : l = [] := List.length_eq_zero_iff.1 (by omega)
    exact way_bad 0 g n [] bad W h hl (by omega) (by simp [hd]) (.inl (by simp [hd]))
  | succ f ih =>
    intro l n bad W h hf hn hl5
    have hl : l.length ≤ 1000 := by omega
    cases l with
    | nil => exact way_bad (f + 1) g n [] bad W h hl (by omega) (by simp [hd]) (.inl (by simp [hd]))
    | cons c r =>
      have hll : (c :: r).length = r.length + 1 := rfl
      by_cases h46 : c.toNat = 46
      · exact way_dot f g n c r bad W h hl h46
      · by_cases h40 : c.toNat ≠ 40 ∨ bad = true ∨ 9 < n
        · exact way_bad (f + 1) g n (c :: r) bad W h hl (by omega) h46 h40
        · have hc : c.toNat = 40 := Classical.byContradiction fun h => h40 (.inl h)
          have hb : bad = false := by cases bad with
            | false => rfl
            | true => exact absurd (.inr (.inl rfl)) h40
          subst hb
          exact way_node f g n c r W h hl5 (by omega) (by omega) hc ih
end Go.Proofs.Ytcgpfdknadijlaa

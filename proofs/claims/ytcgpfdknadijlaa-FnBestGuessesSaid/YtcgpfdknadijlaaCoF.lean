/- Drawn prices and ways, together. -/
import Derived.Test.YtcgpfdknadijlaaCoE
namespace Go.Proofs.Ytcgpfdknadijlaa
open Go.RowKit

def pickT (X : Nat) : ByteArray := [⟨#[]⟩, ⟨#[46]⟩, ⟨#[48]⟩, ⟨#[41]⟩].getD X ⟨#[]⟩
theorem pickT_size {X : Nat} (h : X < 4) : (pickT X).size ≤ 1 := by
  rcases X with _ | _ | _ | _ | X
  · decide
  · decide
  · decide
  · decide
  · omega
theorem litT_0 {w : World} {X : Nat} (hX : X < 4) : (w.alloc (.cells #[.string ⟨#[]⟩, .string ⟨#[46]⟩, .string ⟨#[48]⟩, .string ⟨#[41]⟩] 9)).cell? ⟨w.heap.size, X, none⟩ = some (.string (pickT X)) := by
  rw [World.cell?_alloc_at _ _ _ _ rfl]
  rcases X with _ | _ | _ | _ | X
  · rfl
  · rfl
  · rfl
  · rfl
  · omega
theorem litT_get {X : Nat} (h : X < [Value.string ⟨#[]⟩, .string ⟨#[46]⟩, .string ⟨#[48]⟩, .string ⟨#[41]⟩].length) : [Value.string ⟨#[]⟩, .string ⟨#[46]⟩, .string ⟨#[48]⟩, .string ⟨#[41]⟩][X]'h = .string (pickT X) := by
  rcases X with _ | _ | _ | _ | X
  · rfl
  · rfl
  · rfl
  · rfl
  · simp at h; omega
theorem size_cut (S : ByteArray) (a b : Nat) (h : b ≤ S.size) : (S.extract a b).size ≤ S.size := by
  rw [ByteArray.size_extract]; omega

theorem own_step {lo g : Nat} {w w' : World} {v : Value} {zs : List Int} (h : Own w lo w.heap.size v zs) (ht : Turned g (g + 1) w w') (hg : g < lo) : Own w' lo w'.heap.size v zs :=
  (h.turned ht (Nat.le_refl _) (.inr hg)).wide (Nat.le_refl _) ht.size
theorem own_al {lo : Nat} {w : World} {v : Value} {zs : List Int} (h : Own w lo w.heap.size v zs) (o : Obj) : Own (w.alloc o) lo (w.alloc o).heap.size v zs :=
  (h.keep fun k _ hk => Below.heap_alloc _ _ _ hk).wide (Nat.le_refl _) (by simp)

theorem own_dr {lo : Nat} {w : World} {v : Value} {zs : List Int} (h : Own w lo w.heap.size v zs) : Own w.drew lo w.drew.heap.size v zs :=
  h.keep fun _ _ _ => rfl

set_option maxHeartbeats 12800000 in
set_option maxRecDepth 100000 in
theorem guessed_any (g B : Nat) (n : Int) (w : World) (h : Rdr w g B) (hB : B ≤ 100) :
    Calls Try.prog 29 #[.pointer (some ⟨g, 0, none⟩), .int .i64 n] w fun e w' => (∃ v zs S, e = .returned (.tuple #[v, .string S]) ∧ zs.length ≤ 10 ∧ S.size ≤ 60 ∧ Own w' w.heap.size w'.heap.size v zs) ∧ Rdr w' g (B + 100) ∧ Turned g (g + 1) w w' := by
  have hg := rdr_lt h
  have T := Lib.hid (prices_any g B n w h (by omega))
  clear h
  go_enter Try.func29, Try.ntmps29
  go_wp2_with fail
  with_reducible refine T.out.mono ?_
  rintro e w1 ⟨⟨v, zs, rfl, hzl, ho1⟩, r1, t1⟩
  have HR1 := Lib.hid r1
  have HT1 := Lib.hid t1
  have HO1 := Lib.hid ho1
  have hs1 := t1.size
  obtain ⟨a, c, rfl, l1, m1, -⟩ := ho1.rd
  clear r1 t1 ho1
  obtain ⟨M, hM, hM9⟩ : ∃ M : Nat, min (zs.length : Int) 9 = (M : Int) ∧ M ≤ 9 := ⟨min zs.length 9, by omega, by omega⟩
  have T2 := Lib.hid (guesses_any g M 0 M (B + 40) w1 (by omega) hM9 HR1.out (by omega))
  rw [show ((0 : Nat) : Int) = 0 from rfl] at T2
  have hMc : ((zs.length : Int) ≤ 9 ∧ (M : Int) = zs.length) ∨ (9 < (zs.length : Int) ∧ M = 9) := by omega
  clear hM
  rcases hMc with ⟨h9, hMe⟩ | ⟨h9, rfl⟩
  · rw [hMe] at T2
    go_wp2_with fail
    with_reducible refine T2.out.mono ?_
    rintro e w2 ⟨⟨S, rfl, hS⟩, r2, t2⟩
    have HR2 := Lib.hid (rdr_more (C := B + 50) r2 (by omega))
    have HT2 := Lib.hid (turned_trans HT1.out t2)
    have HO2 := Lib.hid (own_step HO1.out t2 hg)
    have hs37 : S.size ≤ 37 := by omega
    have hs0 : 1 ≤ S.size := by omega
    clear r2 t2 hS
    go_wp2_with fail
    with_reducible refine (odd_any g (B + 50) n _ HR2.out (by omega)).mono ?_
    rintro e w3 ⟨b, rfl, -, r3, t3, -⟩
    have HR3 := Lib.hid r3
    have HT3 := Lib.hid (turned_trans HT2.out t3)
    have HO3 := Lib.hid (own_step HO2.out t3 hg)
    clear r3 t3
    cases b with
    | false =>
      go_wp2
      refine bodyPost_ret (v := .tuple #[.slice a zs.length c, .string S]) (by simp [results, Try.results29, go_sem]) rfl ?_
      exact ⟨⟨_, zs, S, rfl, hzl, by omega, HO3.out⟩, rdr_more HR3.out (by omega), HT3.out⟩
    | true =>
      go_wp2_with fail
      with_reducible refine (pick_any g (B + 51) (S.size : Int) _ HR3.out (by omega)).mono ?_
      rintro e w4 ⟨y, rfl, ⟨y0, y1, -⟩, r4, t4, -⟩
      obtain ⟨k, rfl⟩ := Int.eq_ofNat_of_zero_le y0
      have hk : k < S.size := by have := y1 (by omega); omega
      have HR4 := Lib.hid (rdr_more (C := B + 60) r4 (by omega))
      have HT4 := Lib.hid (turned_trans HT3.out t4)
      have HO4 := Lib.hid (own_step HO3.out t4 hg)
      have hg4 := rdr_lt HR4.out
      obtain ⟨S1, hS1⟩ : ∃ S1, S.extract 0 k = S1 := ⟨_, rfl⟩
      obtain ⟨S2, hS2⟩ : ∃ S2, S.extract (k + 1) S.size = S2 := ⟨_, rfl⟩
      have z1 : S1.size ≤ 37 := by rw [← hS1]; have := size_cut S 0 k (by omega); omega
      have z2 : S2.size ≤ 37 - 0 := by rw [← hS2]; have := size_cut S (k + 1) S.size (Nat.le_refl _); omega
      have z3 : S1.size + S2.size ≤ 50 := by
        rw [← hS1, ← hS2, ByteArray.size_extract, ByteArray.size_extract]; omega
      have hw : IntKind.i64.wrap ((k : Int) + 1) = (k : Int) + 1 := by rw [IntKind.wrap_i64]; omega
      have hk1 : (k : Int) + 1 ≤ (S.size : Int) := by omega
      have hk2 : (k : Int) ≤ (S.size : Int) := by omega
      clear r4 t4 y1
      go_wp2_with fail
      go_region_with ((go_at_call 33; (refine (pick_any g (B + 60) 4 _ (by first | exact HR4.out | exact rdr_alloc HR4.out _) (by omega)).mono ?_; rintro e w7 ⟨x7, rfl, ⟨p7, q7, -⟩, r7, t7, -⟩; have g7 := rdr_lt r7; have u7 : Turned g (g + 1) w w7 := (by first | exact turned_trans (turned_drew HT4.out) t7 | exact turned_trans (turned_drew (turned_alloc HT4.out _)) t7 | exact turned_trans (turned_alloc (turned_drew HT4.out) _) t7); have o7 : Own w7 w.heap.size w7.heap.size (.slice a zs.length c) zs := (by first | exact own_step (own_dr HO4.out) t7 hg | exact own_step (own_dr (own_al HO4.out _)) t7 hg | exact own_step (own_al (own_dr HO4.out) _) t7 hg); obtain ⟨X7, rfl⟩ := Int.eq_ofNat_of_zero_le p7; have q7 : X7 < 4 := (by have := q7 (by omega); omega); (try have a7 : w7.cell? ⟨w4.heap.size, X7, none⟩ = some (.string (pickT X7)) := cell_t t7 (by omega) (litT_0 q7)); have l7 := @litT_get X7; have y7 := pickT_size q7; have k7 : (9223372036854775807 < S1.size + (pickT X7).size) = False := eq_false (by omega); have k8 : (9223372036854775807 < S1.size + (pickT X7).size + S2.size) = False := eq_false (by omega); clear t7)))
      all_goals go_wp2
      all_goals refine bodyPost_ret (v := .tuple #[.slice a zs.length c, .string (S1 ++ pickT X7 ++ S2)]) (by simp [results, Try.results29, go_sem]) rfl ?_
      all_goals first | exact ⟨⟨_, zs, _, rfl, hzl, by rw [size_add, size_add]; omega, o7⟩, rdr_more r7 (by omega), u7⟩ | exact ⟨⟨_, zs, _, rfl, hzl, by rw [size_add, size_add]; omega, own_al o7 _⟩, rdr_more (rdr_alloc r7 _) (by omega), turned_alloc u7 _⟩
  · rw [show ((9 : Nat) : Int) = 9 from rfl] at T2
    go_wp2_with fail
    with_reducible refine T2.out.mono ?_
    rintro e w2 ⟨⟨S, rfl, hS⟩, r2, t2⟩
    have HR2 := Lib.hid (rdr_more (C := B + 50) r2 (by omega))
    have HT2 := Lib.hid (turned_trans HT1.out t2)
    have HO2 := Lib.hid (own_step HO1.out t2 hg)
    have hs37 : S.size ≤ 37 := by omega
    have hs0 : 1 ≤ S.size := by omega
    clear r2 t2 hS
    go_wp2_with fail
    with_reducible refine (odd_any g (B + 50) n _ HR2.out (by omega)).mono ?_
    rintro e w3 ⟨b, rfl, -, r3, t3, -⟩
    have HR3 := Lib.hid r3
    have HT3 := Lib.hid (turned_trans HT2.out t3)
    have HO3 := Lib.hid (own_step HO2.out t3 hg)
    clear r3 t3
    cases b with
    | false =>
      go_wp2
      refine bodyPost_ret (v := .tuple #[.slice a zs.length c, .string S]) (by simp [results, Try.results29, go_sem]) rfl ?_
      exact ⟨⟨_, zs, S, rfl, hzl, by omega, HO3.out⟩, rdr_more HR3.out (by omega), HT3.out⟩
    | true =>
      go_wp2_with fail
      with_reducible refine (pick_any g (B + 51) (S.size : Int) _ HR3.out (by omega)).mono ?_
      rintro e w4 ⟨y, rfl, ⟨y0, y1, -⟩, r4, t4, -⟩
      obtain ⟨k, rfl⟩ := Int.eq_ofNat_of_zero_le y0
      have hk : k < S.size := by have := y1 (by omega); omega
      have HR4 := Lib.hid (rdr_more (C := B + 60) r4 (by omega))
      have HT4 := Lib.hid (turned_trans HT3.out t4)
      have HO4 := Lib.hid (own_step HO3.out t4 hg)
      have hg4 := rdr_lt HR4.out
      obtain ⟨S1, hS1⟩ : ∃ S1, S.extract 0 k = S1 := ⟨_, rfl⟩
      obtain ⟨S2, hS2⟩ : ∃ S2, S.extract (k + 1) S.size = S2 := ⟨_, rfl⟩
      have z1 : S1.size ≤ 37 := by rw [← hS1]; have := size_cut S 0 k (by omega); omega
      have z2 : S2.size ≤ 37 - 0 := by rw [← hS2]; have := size_cut S (k + 1) S.size (Nat.le_refl _); omega
      have z3 : S1.size + S2.size ≤ 50 := by
        rw [← hS1, ← hS2, ByteArray.size_extract, ByteArray.size_extract]; omega
      have hw : IntKind.i64.wrap ((k : Int) + 1) = (k : Int) + 1 := by rw [IntKind.wrap_i64]; omega
      have hk1 : (k : Int) + 1 ≤ (S.size : Int) := by omega
      have hk2 : (k : Int) ≤ (S.size : Int) := by omega
      clear r4 t4 y1
      go_wp2_with fail
      go_region_with ((go_at_call 33; (refine (pick_any g (B + 60) 4 _ (by first | exact HR4.out | exact rdr_alloc HR4.out _) (by omega)).mono ?_; rintro e w7 ⟨x7, rfl, ⟨p7, q7, -⟩, r7, t7, -⟩; have g7 := rdr_lt r7; have u7 : Turned g (g + 1) w w7 := (by first | exact turned_trans (turned_drew HT4.out) t7 | exact turned_trans (turned_drew (turned_alloc HT4.out _)) t7 | exact turned_trans (turned_alloc (turned_drew HT4.out) _) t7); have o7 : Own w7 w.heap.size w7.heap.size (.slice a zs.length c) zs := (by first | exact own_step (own_dr HO4.out) t7 hg | exact own_step (own_dr (own_al HO4.out _)) t7 hg | exact own_step (own_al (own_dr HO4.out) _) t7 hg); obtain ⟨X7, rfl⟩ := Int.eq_ofNat_of_zero_le p7; have q7 : X7 < 4 := (by have := q7 (by omega); omega); (try have a7 : w7.cell? ⟨w4.heap.size, X7, none⟩ = some (.string (pickT X7)) := cell_t t7 (by omega) (litT_0 q7)); have l7 := @litT_get X7; have y7 := pickT_size q7; have k7 : (9223372036854775807 < S1.size + (pickT X7).size) = False := eq_false (by omega); have k8 : (9223372036854775807 < S1.size + (pickT X7).size + S2.size) = False := eq_false (by omega); clear t7)))
      all_goals go_wp2
      all_goals refine bodyPost_ret (v := .tuple #[.slice a zs.length c, .string (S1 ++ pickT X7 ++ S2)]) (by simp [results, Try.results29, go_sem]) rfl ?_
      all_goals first | exact ⟨⟨_, zs, _, rfl, hzl, by rw [size_add, size_add]; omega, o7⟩, rdr_more r7 (by omega), u7⟩ | exact ⟨⟨_, zs, _, rfl, hzl, by rw [size_add, size_add]; omega, own_al o7 _⟩, rdr_more (rdr_alloc r7 _) (by omega), turned_alloc u7 _⟩
end Go.Proofs.Ytcgpfdknadijlaa

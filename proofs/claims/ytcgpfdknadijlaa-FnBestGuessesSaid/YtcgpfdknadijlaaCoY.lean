/- The text of the best way, at the implementation. -/
import Derived.Test.YtcgpfdknadijlaaCoO
import Derived.Test.YtcgpfdknadijlaaCoX
namespace Go.Proofs.Ytcgpfdknadijlaa
open Go.RowKit

theorem rune_text (c : Int) (h : 48 ≤ c ∧ c ≤ 57) : Utf8.encode c = tx [UInt8.ofNat c.toNat] := by
  have hc : c = 48 ∨ c = 49 ∨ c = 50 ∨ c = 51 ∨ c = 52 ∨ c = 53 ∨ c = 54 ∨ c = 55 ∨ c = 56 ∨ c = 57 := by omega
  rcases hc with rfl | rfl | rfl | rfl | rfl | rfl | rfl | rfl | rfl | rfl <;> decide

theorem PlansAt.below {w0 w w' : World} {q b1 b2 c : Nat} {a : Option Addr} {zs : List Int} (h : PlansAt w0 w q b1 b2 a zs c) (hb : Below w.heap.size w w') : PlansAt w0 w' q b1 b2 a zs c := by
  obtain ⟨h1, h2, h3, h4, h5, h6, h7, h8⟩ := h
  exact ⟨(hb.block q (Array.getElem?_eq_some_iff.1 h1).1).trans h1, h2, h3, h4, h5, h6, h7, h8.trans (hb.mono h8.size)⟩
theorem MapF.below {w w' : World} {b n : Nat} {f : Int → Int → Int} (h : MapF w b n f) (hb : Below w.heap.size w w') : MapF w' b n f := h.keep (hb.block b h.lt)
theorem size_add2 (a b : ByteArray) : (a ++ b).size = a.size + b.size := by simp
theorem tx_add (a b : List UInt8) : tx a ++ tx b = tx (a ++ b) := by
  apply ByteArray.ext; simp [tx]

set_option maxHeartbeats 6400000 in
set_option maxRecDepth 100000 in
theorem text_any (w0 : World) (q b1 b2 : Nat) (a : Option Addr) (zs : List Int) (c nn : Nat) (F : Int → Int → Int) (hz : ∀ z ∈ zs, 0 ≤ z ∧ z ≤ 50) (hl : zs.length ≤ 9) (hF : FInv zs F (zs.length + 1) 0) : ∀ (d f t : Nat) (w : World), t - f ≤ d → f ≤ t → t ≤ zs.length → PlansAt w0 w q b1 b2 a zs c → MapF w b2 nn F →
    Calls Try.prog 21 #[.pointer (some ⟨q, 0, none⟩), .agg #[.int .i64 f, .int .i64 t]] w fun e w' => e = .returned (.string (tx (txt (bestW zs f t)))) ∧ Below w.heap.size w w' := by
  intro d
  induction d with
  | zero =>
    intro f t w hd hft htl hP hM
    obtain rfl : t = f := by omega
    rw [bestW_leaf (Nat.le_refl _)]
    have HB := Lib.hid ((Below.refl _ w).alloc (Nat.le_refl _) (.cells #[.int .i64 t, .int .i64 t] 43))
    have hbx : (w.alloc (.cells #[.int .i64 t, .int .i64 t] 43)).heap[w.heap.size]? = some (.cells #[.int .i64 t, .int .i64 t] 43) := (MapKept.heap_alloc w _).1
    obtain ⟨w1, hw1⟩ : ∃ w1, w1 = w.alloc (.cells #[.int .i64 t, .int .i64 t] 43) := ⟨_, rfl⟩
    obtain ⟨p, hpe⟩ : ∃ p, p = w.heap.size := ⟨_, rfl⟩
    rw [← hw1] at HB hbx
    rw [← hpe] at hbx
    have d0 : w1.cell? ⟨p, 0, none⟩ = some (.int .i64 t) := by rw [cell_of_row w1 p _ _ _ _ hbx]; rfl
    have d1 : w1.cell? ⟨p, 1, none⟩ = some (.int .i64 t) := by rw [cell_of_row w1 p _ _ _ _ hbx]; rfl
    have HW1 := Lib.hid hw1
    have HPE := Lib.hid hpe
    clear hw1 hpe hbx hP hM
    go_enter Try.func21, Try.ntmps21
    go_wp2_with fail
    rw [← HW1.out, ← HPE.out]
    go_wp2
    go_ret
    exact ⟨rfl, by rw [HPE.out]; exact HB.out⟩
  | succ d ih =>
    intro f t w hd hft htl hP hM
    by_cases hft' : t = f
    · subst hft'
      exact ih t t w (by omega) (Nat.le_refl _) htl hP hM
    · have IH := Lib.hid ih
      have hne : ((f : Int) == (t : Int)) = false := by rw [beq_eq_false_iff_ne]; omega
      have hg := fstB_in hz (show f < t by omega)
      have hG := hF f t (by omega) htl (.inl (by omega))
      have HT := Lib.hid (bestW_node hz (show f < t by omega))
      obtain ⟨g, hge⟩ : ∃ g, fstB zs f t = g := ⟨_, rfl⟩
      rw [hge] at hg hG HT
      have n1 := txt_length (bestW zs f g)
      have n2 := txt_length (bestW zs (g + 1) t)
      rw [bestW_size hz hg.1] at n1
      rw [bestW_size hz (by omega)] at n2
      rw [HT.out]
      obtain ⟨l1, hl1⟩ : ∃ l1, txt (bestW zs f g) = l1 := ⟨_, rfl⟩
      obtain ⟨l2, hl2⟩ : ∃ l2, txt (bestW zs (g + 1) t) = l2 := ⟨_, rfl⟩
      have HB := Lib.hid ((Below.refl _ w).alloc (Nat.le_refl _) (.cells #[.int .i64 f, .int .i64 t] 43))
      have hbx : (w.alloc (.cells #[.int .i64 f, .int .i64 t] 43)).heap[w.heap.size]? = some (.cells #[.int .i64 f, .int .i64 t] 43) := (MapKept.heap_alloc w _).1
      have hP1 := hP.alloc (.cells #[.int .i64 f, .int .i64 t] 43)
      have hM1 := alive_alloc hM (.cells #[.int .i64 f, .int .i64 t] 43)
      obtain ⟨w1, hw1⟩ : ∃ w1, w1 = w.alloc (.cells #[.int .i64 f, .int .i64 t] 43) := ⟨_, rfl⟩
      obtain ⟨p, hpe⟩ : ∃ p, p = w.heap.size := ⟨_, rfl⟩
      rw [← hw1] at HB hbx hP1 hM1
      rw [← hpe] at hbx
      obtain ⟨-, -, e2⟩ := hP1.cells
      have d0 : w1.cell? ⟨p, 0, none⟩ = some (.int .i64 f) := by rw [cell_of_row w1 p _ _ _ _ hbx]; rfl
      have d1 : w1.cell? ⟨p, 1, none⟩ = some (.int .i64 t) := by rw [cell_of_row w1 p _ _ _ _ hbx]; rfl
      have lk := fun n9 => (hM1.keep (w' := w1.drewN n9) rfl).look (x := f) (y := t) (by omega) (by omega)
      simp only [hG] at lk
      have HP1 := Lib.hid hP1
      have HM1 := Lib.hid hM1
      have HW1 := Lib.hid hw1
      have HPE := Lib.hid hpe
      have HG := Lib.hid hge
      have HL1 := Lib.hid hl1
      have HL2 := Lib.hid hl2
      rw [hl1] at n1
      rw [hl2] at n2
      clear hw1 hpe hbx hP hM hP1 hM1 ih hge hl1 hl2 hG
      go_enter Try.func21, Try.ntmps21
      go_wp2_with fail
      rw [← HW1.out, ← HPE.out]
      go_wp2_with fail
      go_quiet (fail)
      have HB2 := Lib.hid (below_drewN HB.out nq)
      have HP2 := Lib.hid (HP1.out.drewN nq)
      have HM2 := Lib.hid (HM1.out.keep (w' := w1.drewN nq) rfl)
      have d0' : (w1.drewN nq).cell? ⟨p, 0, none⟩ = some (.int .i64 f) := d0
      have d1' : (w1.drewN nq).cell? ⟨p, 1, none⟩ = some (.int .i64 t) := d1
      generalize w1.drewN nq = w2 at *
      have HB3 : Hid (Below w.heap.size w w2.drew) := ⟨HB2.out.os, HB2.out.tape, HB2.out.output, HB2.out.size, HB2.out.block⟩
      clear HB HP1 HM1 d0 d1 lk e2
      have T1 := Lib.hid (IH.out f g w2.drew (by omega) hg.1 (by omega) HP2.out.drew (HM2.out.keep (w' := w2.drew) rfl))
      have T2 : Hid (∀ W, Below w2.drew.heap.size w2.drew W → Calls Try.prog 21 #[.pointer (some ⟨q, 0, none⟩), .agg #[.int .i64 ((g + 1 : Nat) : Int), .int .i64 t]] W fun e w' => e = .returned (.string (tx (txt (bestW zs (g + 1) t)))) ∧ Below W.heap.size W w') :=
        fun W hW => IH.out (g + 1) t W (by omega) (by omega) htl (HP2.out.drew.below hW) ((HM2.out.keep (w' := w2.drew) rfl).below hW)
      rw [HL1.out] at T1
      rw [HL2.out, show ((g + 1 : Nat) : Int) = (g : Int) + 1 by omega] at T2
      have hw9 : IntKind.i64.wrap ((g : Int) + 1) = (g : Int) + 1 := by rw [IntKind.wrap_i64]; omega
      have hw7 : IntKind.i64.wrap (48 + (g : Int)) = 48 + (g : Int) := by rw [IntKind.wrap_i64]; omega
      have hw8 : IntKind.i32.wrap (48 + (g : Int)) = 48 + (g : Int) := by rw [IntKind.wrap_i32]; omega
      have hrt := rune_text (48 + (g : Int)) (by omega)
      rw [show (48 + (g : Int)).toNat = 48 + g by omega] at hrt
      have z1 := tx_size l1
      have z2 := tx_size l2
      have z3 := tx_size [UInt8.ofNat (48 + g)]
      obtain ⟨S1, hS1⟩ : ∃ S, tx l1 = S := ⟨_, rfl⟩
      obtain ⟨S2, hS2⟩ : ∃ S, tx l2 = S := ⟨_, rfl⟩
      obtain ⟨S3, hS3⟩ : ∃ S, tx [UInt8.ofNat (48 + g)] = S := ⟨_, rfl⟩
      rw [hS1] at z1 T1
      rw [hS2] at z2 T2
      rw [hS3] at z3 hrt
      have z1' : S1.size ≤ 40 := by omega
      have z2' : S2.size ≤ 40 := by omega
      have z3' : S3.size ≤ 1 := by rw [z3]; exact Nat.le_refl _
      have HS1 := Lib.hid hS1
      have HS2 := Lib.hid hS2
      have HS3 := Lib.hid hS3
      have k1 : (9223372036854775807 < 1 + S1.size) = False := eq_false (by omega)
      have k2 : (9223372036854775807 < 1 + S1.size + S3.size) = False := eq_false (by omega)
      have k3 : (9223372036854775807 < 1 + S1.size + S3.size + S2.size) = False := eq_false (by omega)
      have k4 : (9223372036854775807 < 1 + S1.size + S3.size + S2.size + 1) = False := eq_false (by omega)
      have HEQ : Hid ((⟨#[40]⟩ : ByteArray) ++ S1 ++ S3 ++ S2 ++ ⟨#[41]⟩ = tx (txt (.node g (bestW zs f g) (bestW zs (g + 1) t)))) := by
        rw [← HS1.out, ← HS2.out, ← HS3.out]
        show tx [40] ++ tx l1 ++ tx [UInt8.ofNat (48 + g)] ++ tx l2 ++ tx [41] = _
        rw [tx_add, tx_add, tx_add, tx_add]
        simp only [txt, HL1.out, HL2.out]
        exact congrArg tx (by simp only [List.append_assoc, List.cons_append, List.nil_append])
      clear hS1 hS2 hS3 z1 z2 z3 n1 n2
      go_wp2_with fail
      go_region_with (first | (go_at_call 21; refine (T2.out _ B5.out).mono ?_; rintro e w6 ⟨rfl, b6⟩; have B7 := Lib.hid (B5.out.trans (b6.mono B5.out.size)); clear b6) | (go_at_call 21; refine (T1.out).mono ?_; rintro e w5 ⟨rfl, b5⟩; have c0 : w5.cell? ⟨p, 0, none⟩ = some (.int .i64 f) := (b5.cell (p := ⟨p, 0, none⟩) (block_lt_of_cell (w := w2) d0')).trans d0'; have c1 : w5.cell? ⟨p, 1, none⟩ = some (.int .i64 t) := (b5.cell (p := ⟨p, 1, none⟩) (block_lt_of_cell (w := w2) d1')).trans d1'; have B5 := Lib.hid b5; clear b5))
      all_goals go_wp2
      all_goals refine bodyPost_ret (v := .string ((⟨#[40]⟩ : ByteArray) ++ S1 ++ S3 ++ S2 ++ ⟨#[41]⟩)) (by simp [results, Try.results21, go_sem]) rfl ?_
      all_goals exact ⟨by rw [← HEQ.out], HB3.out.trans (B7.out.mono HB3.out.size)⟩

set_option maxHeartbeats 3200000 in
set_option maxRecDepth 100000 in
theorem implBestGuesses_any (w : World) (v : Value) (zs : List Int) (h : Rd w v zs) :
    Calls Try.prog 7 #[v] w fun e w' => e = .returned (.string (tx (bestT zs))) ∧ Below w.heap.size w w' := by
  obtain ⟨S, hS⟩ : ∃ S, tx (bestT zs) = S := ⟨_, rfl⟩
  rw [hS]
  have HO : Hid (S = tx (if priceB zs then txt (bestW zs 0 zs.length) else [])) := hS.symm
  clear hS
  have T := Lib.hid (implPricesOk_any v zs w h)
  have hbk := h
  obtain ⟨a, c, rfl, l1, m1, -⟩ := hbk
  have HR := Lib.hid h
  clear h
  go_enter Try.func7, Try.ntmps7
  go_wp2_with fail
  with_reducible refine T.out.mono ?_
  rintro e w1 ⟨rfl, b1⟩
  have HB1 := Lib.hid b1
  clear b1 T
  by_cases hp : priceB zs = true
  · have hS := HO.out
    rw [if_pos hp] at hS
    rw [hp]
    have hl9 := (priceB_yes hp).1
    have HZ := Lib.hid (priceB_yes hp).2
    go_wp2_with fail
    with_reducible refine (plansFor_any w1 _ zs (HR.out.below HB1.out) hp).mono ?_
    rintro e w2 ⟨q, p1, p2, nn, mm, N, F, a9, c9, hv, rfl, hP, -, hM, -, hF⟩
    have T2 := Lib.hid (text_any w1 q p1 p2 a9 zs c9 mm F HZ.out hl9 hF _ 0 zs.length w2 (Nat.le_refl _) (Nat.zero_le _) (Nat.le_refl _) hP hM)
    rw [← hS, show ((0 : Nat) : Int) = 0 from rfl] at T2
    have HB2 := Lib.hid (HB1.out.trans (hP.2.2.2.2.2.2.2.mono HB1.out.size))
    clear hP hM hF hv HB1 HR hS HO
    go_wp2_with fail
    with_reducible refine T2.out.mono ?_
    rintro e w3 ⟨rfl, b3⟩
    have HB3 := Lib.hid (HB2.out.trans (b3.mono HB2.out.size))
    clear b3
    go_wp2
    go_ret
    exact ⟨rfl, HB3.out⟩
  · rw [Bool.not_eq_true] at hp
    have hS := HO.out
    rw [hp] at hS
    simp only [Bool.false_eq_true, if_false] at hS
    subst hS
    rw [hp]
    clear HO
    go_wp2
    go_ret
    exact ⟨rfl, HB1.out⟩
end Go.Proofs.Ytcgpfdknadijlaa

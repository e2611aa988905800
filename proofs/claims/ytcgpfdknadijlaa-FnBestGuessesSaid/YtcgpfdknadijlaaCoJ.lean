/- What is needed and what is paid, at the implementation. -/
import Derived.Test.YtcgpfdknadijlaaCoI
namespace Go.Proofs.Ytcgpfdknadijlaa
open Go.RowKit

def priceB (zs : List Int) : Bool := decide (zs.length ≤ 9) && allB 0 50 zs
def needI (zs : List Int) (l : List UInt8) : Int := if priceB zs then (match okW zs.length l with | some t => t.cost zs | none => -1) else -1
def paidI (zs : List Int) (l : List UInt8) (x : Int) : Int := if priceB zs && inB 0 ((zs.length : Int) - 1) x then (match okW zs.length l with | some t => t.paid zs x.toNat | none => -1) else -1

theorem priceB_yes {zs : List Int} (h : priceB zs = true) : zs.length ≤ 9 ∧ ∀ z ∈ zs, 0 ≤ z ∧ z ≤ 50 := by
  unfold priceB allB at h
  rw [Bool.and_eq_true, decide_eq_true_eq, List.all_eq_true] at h
  exact ⟨h.1, fun z hz => inB_in (h.2 z hz)⟩
theorem okW_in {M : Nat} {l : List UInt8} {t : Wy} (h : okW M l = some t) : t.In 0 M ∧ t.size = M := by
  unfold okW at h
  cases hq : pw l.length 0 l with
  | none => rw [hq] at h; cases h
  | some q =>
    obtain ⟨t', r, m⟩ := q
    rw [hq] at h
    dsimp only at h
    split at h
    · rename_i hc
      injection h with h
      subst h
      have := (pw_in _ _ _ _ _ _ hq).1
      rw [hc.2] at this
      have hs := this.size
      exact ⟨this, by omega⟩
    · cases h

set_option maxRecDepth 100000 in
theorem implPricesOk_any (v : Value) (zs : List Int) (w : World) (h : Rd w v zs) :
    Calls Try.prog 9 #[v] w fun e w' => e = .returned (.bool (priceB zs)) ∧ Below w.heap.size w w' := by
  have T := Lib.hid (allIn_any v zs 0 50 w h)
  have HO : Hid (priceB zs = (decide (zs.length ≤ 9) && allB 0 50 zs)) := rfl
  obtain ⟨a, c, rfl, l1, m1, -⟩ := h
  by_cases h9 : zs.length ≤ 9
  · have HO2 : Hid (priceB zs = allB 0 50 zs) := by unfold Hid; rw [HO.out, decide_eq_true h9]; rfl
    have g0 : decide ((zs.length : Int) ≤ 9) = true := by simp; omega
    go_enter Try.func9, Try.ntmps9
    go_wp2_with fail
    with_reducible refine T.out.mono ?_
    rintro e w' ⟨rfl, b⟩
    have HB := Lib.hid b
    rw [← HO2.out]
    clear b
    go_wp2
    go_ret
    exact ⟨rfl, HB.out⟩
  · have HO2 : Hid (priceB zs = false) := by unfold Hid; rw [HO.out, decide_eq_false h9]; rfl
    have g0 : decide ((zs.length : Int) ≤ 9) = false := by simp; omega
    clear T
    go_enter Try.func9, Try.ntmps9
    go_wp2
    go_ret
    exact ⟨ret_bool HO2.out.symm, Below.refl _ _⟩

set_option maxRecDepth 100000 in
theorem implNeedsOf_any (v : Value) (zs : List Int) (l : List UInt8) (w : World) (h : Rd w v zs) (hl : l.length ≤ 60) :
    Calls Try.prog 11 #[v, .string (tx l)] w fun e w' => e = .returned (.int .i64 (needI zs l)) ∧ Below w.heap.size w w' := by
  have T := Lib.hid (implPricesOk_any v zs w h)
  have HR := Lib.hid h
  have HO : Hid (needI zs l = if priceB zs then (match okW zs.length l with | some t => t.cost zs | none => -1) else -1) := rfl
  obtain ⟨a, c, rfl, l1, m1, -⟩ := h
  rcases Bool.eq_false_or_eq_true (priceB zs) with hp | hp
  · obtain ⟨h9, hz⟩ := priceB_yes hp
    have HZ := Lib.hid hz
    have HW := Lib.hid (fun W => wayOf_any zs.length l W h9 hl)
    have HIN := Lib.hid (fun t (ht : okW zs.length l = some t) => okW_in ht)
    rw [hp] at T HO
    generalize okW zs.length l = ok at *
    generalize tx l = S at *
    clear hz hp
    go_enter Try.func11, Try.ntmps11
    go_wp2_with fail
    with_reducible refine T.out.mono ?_
    rintro e w1 ⟨rfl, b1⟩
    have HB1 := Lib.hid b1
    have HR1 := Lib.hid (HR.out.below b1)
    clear b1
    go_wp2_with fail
    with_reducible refine (HW.out _).mono ?_
    rintro e w2 ⟨⟨u, rfl, hu⟩, b2⟩
    have HB2 := Lib.hid (HB1.out.trans (b2.mono HB1.out.size))
    have HR2 := Lib.hid (HR1.out.below b2)
    clear b2
    cases ok with
    | none =>
      go_wp2
      go_ret
      exact ⟨ret_int HO.out.symm, HB2.out⟩
    | some t =>
      obtain ⟨hi, hs⟩ := HIN.out t rfl
      have HN := Lib.hid (needs_any w1.heap.size zs HZ.out _ t (.pointer u) 0 zs.length w2 (hu t rfl) HR2.out hi (Nat.le_refl _) (by omega))
      clear hu hi hs
      go_wp2_with fail
      with_reducible refine HN.out.mono ?_
      rintro e w3 ⟨rfl, n, rfl⟩
      go_wp2
      go_ret
      exact ⟨ret_int HO.out.symm, below_drewN HB2.out _⟩
  · rw [hp] at T HO
    clear hp
    generalize tx l = S at *
    go_enter Try.func11, Try.ntmps11
    go_wp2_with fail
    with_reducible refine T.out.mono ?_
    rintro e w1 ⟨rfl, b1⟩
    have HB1 := Lib.hid b1
    clear b1
    go_wp2
    go_ret
    exact ⟨ret_int HO.out.symm, HB1.out⟩
end Go.Proofs.Ytcgpfdknadijlaa

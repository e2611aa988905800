/- OrdersWon of the reference: the walk. -/
import Derived.Test.YtdpijiccolbljaaOrdK
import Derived.Test.YtdpijiccolbljaaNext
namespace Go.Proofs.Ytdpijiccolbljaa
open Go.RowKit

def moreB : List (List Nat) → Bool
  | [] => false
  | _ :: _ => true
theorem cntL_done (t : Int) (done todo : List (List Nat)) (n : Nat) (hn : n ≤ 7) (h : permsF n n [] = done ++ todo) : cntL t done ≤ 2097152 := by
  have h1 := cntL_bd t n (by omega) n []
  rw [h, cntL_append] at h1
  have h2 : 8 ^ n ≤ 8 ^ 7 := Nat.pow_le_pow_right (by omega) hn
  omega
theorem chain_next {x : List Nat} {l : List (List Nat)} (h : chainOk (x :: l) = true) : chainOk l = true ∧ (l = [] → nextN x = none) ∧ (∀ y m, l = y :: m → nextN x = some y) := by
  unfold chainOk at h
  rw [Bool.and_eq_true] at h
  obtain ⟨h1, h2⟩ := h
  have hq : ∀ a b : List Nat, eqN a b = true → a = b := by
    intro a
    induction a with
    | nil => intro b h; cases b with | nil => rfl | cons _ _ => cases h
    | cons x l ih =>
      intro b h
      cases b with
      | nil => cases h
      | cons y m =>
        obtain ⟨h2, h3⟩ := cond_and (show cond (Nat.beq x y) (eqN l m) false = true from h)
        rw [Nat.eq_of_beq_eq_true h2, ih m h3]
  refine ⟨h2, fun e => ?_, fun y m e => ?_⟩
  · subst e
    cases hn : nextN x with
    | none => rfl
    | some z => rw [hn] at h1; cases h1
  · subst e
    cases hn : nextN x with
    | none => rw [hn] at h1; cases h1
    | some z => rw [hn] at h1; rw [hq _ _ h1]

set_option maxHeartbeats 3200000 in
set_option maxRecDepth 100000 in
theorem specOrdersWon_any (n t : Int) (w : World) :
    Calls Try.prog 33 #[.int .i64 n, .int .i64 t] w fun e w' => e = .returned (.int .i64 (ordI n t)) ∧ Below w.heap.size w w' := by
  obtain ⟨i0, hi, hz0, hz1, hz2⟩ := info_parts infoInt
  go_enter Try.func33, Try.ntmps33
  go_wp2_with fail
  with_reducible refine (l1In_any _ _ _ _).mono ?_
  rintro e w' ⟨rfl, rfl⟩
  rcases Bool.eq_false_or_eq_true (inB 1 7 n) with hb | hb
  rotate_left
  · rw [hb]
    have HF : Hid (ordI n t = -1) := by unfold Hid ordI ordB; rw [hb]; rfl
    clear hb
    go_wp2
    go_ret
    exact ⟨ret_int HF.out.symm, Below.refl _ _⟩
  rw [hb]
  have hn := inB_in hb
  obtain ⟨m, rfl⟩ := Int.eq_ofNat_of_zero_le (a := n) (by omega)
  go_wp2_with fail
  with_reducible refine (l1In_any _ _ _ _).mono ?_
  rintro e w' ⟨rfl, rfl⟩
  rcases Bool.eq_false_or_eq_true (inB 0 7 t) with hb2 | hb2
  rotate_left
  · rw [hb2]
    have HF : Hid (ordI m t = -1) := by unfold Hid ordI ordB; rw [hb2]; simp
    clear hb hb2
    go_wp2
    go_ret
    exact ⟨ret_int HF.out.symm, Below.refl _ _⟩
  rw [hb2]
  have HF : Hid (ordI m t = (cntL t (permsF m m []) : Int)) := by unfold Hid ordI ordB; rw [hb, hb2]; rfl
  have HB2 := Lib.hid hb2
  have hm7 : m ≤ 7 := by omega
  obtain ⟨hch, hhd⟩ := chain_all m (by omega) hm7
  have HCH := Lib.hid hch
  have HHD := Lib.hid hhd
  have HPP : Hid (∀ p, p ∈ permsF m m [] → Perm7 p ∧ p.length = m) := fun p hp => permsF_perm (by omega) hm7 hp
  obtain ⟨P, hP⟩ : ∃ P, P = permsF m m [] := ⟨_, rfl⟩
  rw [← hP] at HCH HHD HF HPP
  have HPQ := Lib.hid hP
  obtain ⟨w, hw⟩ : ∃ w : World, w = w' := ⟨_, rfl⟩
  subst hw
  obtain ⟨W, hW⟩ : ∃ W : World, W = w.alloc (.cells #[] 3) := ⟨_, rfl⟩
  have hbW : Below w.heap.size w W := by rw [hW]; exact (Below.refl _ _).alloc (Nat.le_refl _) _
  have hsW : W.heap.size = w.heap.size + 1 := by rw [hW]; simp
  have hoW : W.ownsRow w.heap.size 3 1 (.slice (some ⟨w.heap.size, 0, none⟩) 0 0) (iz (List.range 0)).length ((iz (List.range 0)).map (Value.int .i64)) := by rw [hW]; exact own_none w
  have HW := Lib.hid hW; have HB := Lib.hid hbW; have HO := Lib.hid hoW
  have hs1 : w.heap.size ≤ W.heap.size := by omega
  clear hW hbW hoW hb hb2 hch hhd hP
  go_wp2_with fail
  rw [← HW.out]
  go_loopg [5, 6] m (fun gk v i wr => ∃ k : Nat, k ≤ m ∧ gk = m - k ∧ i = .int .i64 k ∧ wr.ownsRow w.heap.size 3 1 v (iz (List.range k)).length ((iz (List.range k)).map (Value.int .i64)) ∧ Below w.heap.size w wr ∧ w.heap.size ≤ wr.heap.size)
  case atStart => exact ⟨0, Nat.zero_le _, rfl, rfl, HO.out, HB.out, hs1⟩
  case round =>
    clear HO HB
    obtain ⟨k, hk, rfl, rfl, ho, hb, hs⟩ := hrel
    by_cases hlt : k < m
    · have hl2 : (iz (List.range k)).length ≤ 7 := by rw [length_iz, List.length_range]; omega
      have HSN := Lib.hid (List.range_succ (n := k))
      go_wp2_with (first | (at_builtin; go_loud (refine wpList_append_own _ rfl _ _ 22 rfl w.heap.size 3 i0 (.int .i64 0) 1 8 Try.underlying22 hi hz0 hz1 hz2 rfl (by decide) _ _ _ rfl (ho.alloc _) ⟨_, 0, none⟩ 1 1 [.int .i64 (k : Int)] rfl rfl (one_new _ _ _) ?c2 ?c3 ?c4 ?c5 ?_)) | go_in)
      case c2 => first | exact one_cell _ _ | rfl
      case c3 => unfold maxLen; omega
      case c4 => omega
      case c5 => first | omega | (simp; omega)
      intro v' w5 hown' hgr _
      have hrel := app_rel ho hb (Nat.le_refl _) hs hown' hgr
      have HR5 := Lib.hid hrel
      clear hrel hown' hgr ho hb hz0 hz1 hz2 hi
      go_wp2
      go_roundg (m - (k + 1))
      case measure => omega
      case rel => exact ⟨k + 1, by omega, rfl, by go_num, by rw [HSN.out]; exact snoc_iz HR5.out.1, HR5.out.2.1, HR5.out.2.2⟩
    · have hk' : k = m := by omega
      subst hk'
      have HO := Lib.hid (show Own wr w.heap.size wr.heap.size _ (iz (List.range k)) from Own.new ho (Nat.le_refl _))
      have HB := Lib.hid hb
      have hP0 : P ≠ [] := fun e => by
        have h := HHD.out
        rw [e] at h
        have := congrArg List.length h
        simp at this; omega
      have HP0 := Lib.hid hP0
      clear ho hb hP0
      go_wp2_with fail
      go_loopg [5, 7, 8] P.length (fun gk v s b wr => ∃ done todo : List (List Nat), P = done ++ todo ∧ gk = todo.length ∧ s = .int .i64 (cntL t done : Nat) ∧ b = .bool (moreB todo) ∧ chainOk todo = true ∧ (∀ x l, todo = x :: l → Own wr w.heap.size wr.heap.size v (iz x)) ∧ Below w.heap.size w wr ∧ w.heap.size ≤ wr.heap.size)
      case atStart =>
        refine ⟨[], P, rfl, rfl, rfl, ?_, HCH.out, fun x l e => ?_, HB.out, hs⟩
        · cases hp : P with
          | nil => exact absurd hp HP0.out
          | cons _ _ => rfl
        · have := HHD.out
          rw [e] at this
          have h2 : x = List.range k := this
          rw [h2]; exact HO.out
      case round =>
        clear HO HB
        obtain ⟨done, todo, hP, hg, rfl, rfl, hch, hown, hb, hs⟩ := hrel
        have HG := Lib.hid hg
        have HPD := Lib.hid hP
        have hcb : cntL t done ≤ 2097152 := cntL_done t done todo k hm7 (by rw [← HPQ.out, hP])
        have HCB := Lib.hid hb
        rcases todo with _ | ⟨x, l⟩
        · have hfin : ((cntL t done : Nat) : Int) = ordI k t := by rw [HF.out, HPD.out, List.append_nil]
          have HFIN := Lib.hid hfin
          have hmb : moreB [] = false := rfl
          rw [hmb]
          clear hP hg hch hown hb hfin hmb
          go_wp2
          go_ret
          exact ⟨ret_int HFIN.out, HCB.out⟩
        · have hmb : moreB (x :: l) = true := rfl
          rw [hmb]
          obtain ⟨hX, hxl⟩ := HPP.out x (by rw [HPD.out]; simp)
          have ho := hown x l rfl
          have hr := ho.rd
          have HNXT := Lib.hid (chain_next hch)
          have HFI := Lib.hid (findB_iz hX t)
          have HWN : Hid (cntL t (done ++ [x]) = cntL t done + winN t x) := by unfold Hid; rw [cntL_append]; rfl
          have hx1 := hX.lo
          have hx7 := hX.hi
          clear hP hg hch hown hb hmb ho hX
          go_wp2_with fail
          with_reducible refine (specAllFind_any _ (iz x) t _ hr).mono ?_
          rintro e w5 ⟨rfl, b5⟩
          rw [HFI.out, HB2.out, Bool.true_and]
          have hr5 := hr.below b5
          have HB5 := Lib.hid (HCB.out.trans (b5.mono hs))
          have hs5 := b5.size
          have HWX : Hid (winN t x = if (long x : Int) ≤ t then 1 else 0) := rfl
          generalize long x = L at *
          clear b5 hr
          have HREST : Hid (∀ w6 v6 b, (nextN x = none → b = false) → (∀ p, nextN x = some p → b = true ∧ Own w6 w5.heap.size w6.heap.size v6 (iz p)) → w5.heap.size ≤ w6.heap.size → b = moreB l ∧ ∀ y q, l = y :: q → Own w6 w.heap.size w6.heap.size v6 (iz y)) := fun w6 v6 b h1 h2 _ => by
            cases l with
            | nil => exact ⟨h1 (HNXT.out.2.1 rfl), fun y q e => by cases e⟩
            | cons y q =>
              obtain ⟨h3, h4⟩ := h2 y (HNXT.out.2.2 y q rfl)
              refine ⟨h3, fun y' q' e => ?_⟩
              injection e with e1 e2
              subst e1
              exact h4.wide (by omega) (Nat.le_refl _)
          by_cases hlt : (L : Int) ≤ t
          · have HW1 : Hid (cntL t (done ++ [x]) = cntL t done + 1) := by unfold Hid; rw [HWN.out, HWX.out, if_pos hlt]
            have hdl : decide ((L : Int) ≤ t) = true := by simpa using hlt
            rw [hdl]
            generalize cntL t done = C at *
            clear hlt hdl
            go_wp2_with fail
            with_reducible refine (l10Next_any _ x _ hr5 hx1 hx7).mono ?_
            rintro e w6 ⟨⟨v6, b, rfl, h1, h2⟩, b6⟩
            obtain ⟨hmb, ho6⟩ := HREST.out w6 v6 b h1 h2 b6.size
            have HM := Lib.hid (And.intro hmb ho6)
            have HB6 := Lib.hid (HB5.out.trans (b6.mono (by omega)))
            have hs6 := b6.size
            clear hmb ho6 h1 h2 b6 hr5
            go_wp2
            go_roundg l.length
            case measure => have := HG.out; simp at this; omega
            case rel => exact ⟨done ++ [x], l, by rw [HPD.out]; simp, rfl, by rw [HW1.out]; go_num, by rw [HM.out.1], HNXT.out.1, HM.out.2, HB6.out, by omega⟩
          · have HW1 : Hid (cntL t (done ++ [x]) = cntL t done) := by unfold Hid; rw [HWN.out, HWX.out, if_neg hlt]; rfl
            have hdl : decide ((L : Int) ≤ t) = false := by simpa using hlt
            rw [hdl]
            generalize cntL t done = C at *
            clear hlt hdl
            go_wp2_with fail
            with_reducible refine (l10Next_any _ x _ hr5 hx1 hx7).mono ?_
            rintro e w6 ⟨⟨v6, b, rfl, h1, h2⟩, b6⟩
            obtain ⟨hmb, ho6⟩ := HREST.out w6 v6 b h1 h2 b6.size
            have HM := Lib.hid (And.intro hmb ho6)
            have HB6 := Lib.hid (HB5.out.trans (b6.mono (by omega)))
            have hs6 := b6.size
            clear hmb ho6 h1 h2 b6 hr5
            go_wp2
            go_roundg l.length
            case measure => have := HG.out; simp at this; omega
            case rel => exact ⟨done ++ [x], l, by rw [HPD.out]; simp, rfl, by rw [HW1.out], by rw [HM.out.1], HNXT.out.1, HM.out.2, HB6.out, by omega⟩
end Go.Proofs.Ytdpijiccolbljaa

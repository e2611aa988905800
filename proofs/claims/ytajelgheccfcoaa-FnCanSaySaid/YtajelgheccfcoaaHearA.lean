/- The whole hearing. -/
import Derived.Test.YtajelgheccfcoaaHear
namespace Go.Proofs.Ytajelgheccfcoaa
open Go.RowKit

theorem Turned.two {lo hi : Nat} {w w' w'' : World} {o o' : Obj} (h : Turned lo hi w w') (e : w'' = (w'.alloc o).alloc o') : Turned lo hi w w'' := by
  rw [e]; exact (h.alloc o).alloc o'

set_option maxRecDepth 100000 in
theorem hear_two (p n g : Nat) (c : UInt8) (r : List UInt8) (W : World) (ih : HearAt p n) (hn : r.length ≤ n) (hl : (c :: r).length < 4611686018427387904) (h : Lis W g p (c :: r)) (hc : c.toNat = 40) :
    Calls Try.prog 59 #[.pointer (some ⟨g, 0, none⟩)] W (HearPost p (n + 1) g (c :: r) W) := by
  have T := Lib.hid (take_any g p (c :: r) W h hl)
  have hgW := Lib.hid (Array.getElem?_eq_some_iff.1 h).1
  have HC : Hid (hd (c :: r) = 40) := hc
  have hr : r.length < 4611686018427387904 := by simp at hl; omega
  obtain ⟨x, hx⟩ : ∃ x, x = rd p n r := ⟨_, rfl⟩
  obtain ⟨y, hy⟩ : ∃ y, y = rd p n x.2.tail := ⟨_, rfl⟩
  have lx : x.2.length ≤ r.length := by rw [hx]; exact rd_len p n r
  have lxt : x.2.tail.length ≤ r.length := by simp; omega
  have ly : y.2.length ≤ r.length := by rw [hy]; exact Nat.le_trans (rd_len p n _) lxt
  have HR : Hid (rd p (n + 1) (c :: r) = (match x.1, y.1 with
      | some a, some b => (if hd y.2 = 41 then joinS (hd x.2) a b else none, y.2.tail)
      | _, _ => (none, y.2))) := by
    unfold Hid
    rw [hy, hx]
    simp only [rd, hc, joinS]
    rfl
  have I1 : Hid (∀ W1, Lis W1 g p r → Calls Try.prog 59 #[.pointer (some ⟨g, 0, none⟩)] W1 fun e w' => ∃ v, e = .returned v ∧ Heard w' W1.heap.size x.1 v ∧ Lis w' g p x.2 ∧ Turned g (g + 1) W1 w') := fun W1 h1 => by
    rw [hx]; exact ih r g W1 hn hr h1
  have I2 : Hid (∀ W1, Lis W1 g p x.2.tail → Calls Try.prog 59 #[.pointer (some ⟨g, 0, none⟩)] W1 fun e w' => ∃ v, e = .returned v ∧ Heard w' W1.heap.size y.1 v ∧ Lis w' g p y.2 ∧ Turned g (g + 1) W1 w') := fun W1 h1 => by
    rw [hy]; exact ih x.2.tail g W1 (by omega) (by omega) h1
  have T1 := Lib.hid (fun W1 h1 => take_any g p x.2 W1 h1 (by omega))
  have T2 := Lib.hid (fun W1 h1 => take_any g p y.2 W1 h1 (by omega))
  obtain ⟨o1, l1⟩ := x
  obtain ⟨o2, l2⟩ := y
  clear h hc hl ih hn hr hx hy lx lxt ly
  obtain ⟨S, hS⟩ : ∃ S, S = hd l1 := ⟨_, rfl⟩
  have HS := Lib.hid hS
  obtain ⟨E, hE⟩ : ∃ E, E = hd l2 := ⟨_, rfl⟩
  have HE := Lib.hid hE
  clear hS hE
  go_enter Try.func59, Try.ntmps59
  go_wp2_with fail
  with_reducible refine T.out.mono ?_
  rintro e W1 ⟨rfl, hL, ht, hs⟩
  rw [HC.out]
  have HL := Lib.hid (show Lis W1 g p r from hL)
  have HT := Lib.hid ht
  have HS1 := Lib.hid hs
  clear hL ht hs
  go_wp2_with fail
  with_reducible refine (I1.out _ HL.out).mono ?_
  rintro e W2 ⟨v, rfl, hv, hL, ht⟩
  have HV := Lib.hid (show Heard W2 W.heap.size o1 v from HS1.out ▸ hv)
  have HL2 := Lib.hid hL
  have TT2 : Hid (Turned g (g + 1) W W2) := HT.out.trans ht
  clear hv hL ht
  go_wp2_with fail
  with_reducible refine (T1.out _ HL2.out).mono ?_
  rintro e W3 ⟨rfl, hL, ht, hs⟩
  rw [← HS.out]
  have HL3 := Lib.hid hL
  have TT3 : Hid (Turned g (g + 1) W W3) := TT2.out.trans ht
  have HV3 : Hid (∀ a, o1 = some a → IsClaim W3 W.heap.size a v) := fun a ha => by
    have := HV.out; rw [ha] at this
    exact IsClaim.turned this ht hgW.out
  have HN3 : Hid (o1 = none → v = .nilFunc) := fun ha => by have := HV.out; rw [ha] at this; exact this
  clear hL ht hs
  go_wp2_with fail
  with_reducible refine (I2.out _ HL3.out).mono ?_
  rintro e W4 ⟨u, rfl, hv, hL, ht⟩
  have HL4 := Lib.hid hL
  have TT4 : Hid (Turned g (g + 1) W W4) := TT3.out.trans ht
  have HV4 : Hid (∀ a, o1 = some a → IsClaim W4 W.heap.size a v) := fun a ha => (HV3.out a ha).turned ht hgW.out
  have HU4 : Hid (∀ b, o2 = some b → IsClaim W4 W.heap.size b u) := fun b hb => by
    rw [hb] at hv; exact IsClaim.wide TT3.out.size hv
  have HUN : Hid (o2 = none → u = .nilFunc) := fun hb => by rw [hb] at hv; exact hv
  clear hv hL ht
  have q1 := fn_nil
  have q2 := fn_func
  cases o1 with
  | none =>
    obtain rfl : v = .nilFunc := HN3.out rfl
    go_wp2
    go_ret
    exact ⟨_, rfl, by rw [HR.out]; rfl, by rw [HR.out]; exact HL4.out, TT4.out⟩
  | some a =>
    obtain ⟨f, caps, rfl⟩ := (HV4.out a rfl).func
    cases o2 with
    | none =>
      obtain rfl : u = .nilFunc := HUN.out rfl
      go_wp2
      go_ret
      exact ⟨_, rfl, by rw [HR.out]; rfl, by rw [HR.out]; exact HL4.out, TT4.out⟩
    | some b =>
      obtain ⟨f', caps', rfl⟩ := (HU4.out b rfl).func
      go_wp2_with fail
      with_reducible refine (T2.out _ HL4.out).mono ?_
      rintro e W5 ⟨rfl, hL, ht, hs⟩
      rw [← HE.out]
      have HL5 := Lib.hid hL
      have TT5 : Hid (Turned g (g + 1) W W5) := TT4.out.trans ht
      have A5 := (HV4.out a rfl).turned ht hgW.out
      have B5 := (HU4.out b rfl).turned ht hgW.out
      have J := Lib.hid (joint_any S W.heap.size a b _ _ W5 TT5.out.size A5 B5)
      clear hL ht hs A5 B5
      by_cases h41 : E = 41
      · have hE : Hid (hd l2 = 41) := by rw [← HE.out]; exact h41
        subst h41
        go_wp2_with fail
        with_reducible refine J.out.mono ?_
        rintro e W6 ⟨v6, rfl, hv6, o, o', e6⟩
        have H6 := Lib.hid hv6
        have E6 := Lib.hid e6
        clear hv6 e6
        go_wp2
        go_ret
        refine ⟨_, rfl, ?_, ?_, TT5.out.two E6.out⟩
        · rw [HR.out]
          simp only [hE.out, if_true, ← HS.out]
          exact H6.out
        · rw [HR.out, E6.out]
          exact (HL5.out.alloc _).alloc _
      · have hE : Hid (¬ hd l2 = 41) := by rw [← HE.out]; exact h41
        have e1 : ((E : Int) == 41) = false := by simp; omega
        clear h41
        go_wp2
        go_ret
        refine ⟨_, rfl, ?_, ?_, TT5.out⟩
        · rw [HR.out]; simp only [hE.out, if_false]; rfl
        · rw [HR.out]; exact HL5.out

set_option maxRecDepth 100000 in
theorem hear_else (p n g : Nat) (c : UInt8) (r : List UInt8) (W : World) (hl : (c :: r).length < 4611686018427387904) (h : Lis W g p (c :: r)) (hc : ¬ (48 ≤ c.toNat ∧ c.toNat - 48 < p)) (h1 : ¬ c.toNat = 33) (h2 : ¬ c.toNat = 35) (h3 : ¬ c.toNat = 40) :
    Calls Try.prog 59 #[.pointer (some ⟨g, 0, none⟩)] W (HearPost p (n + 1) g (c :: r) W) := by
  have T := Lib.hid (take_any g p (c :: r) W h hl)
  have HR : Hid (rd p (n + 1) (c :: r) = (none, r)) := by
    unfold Hid; simp only [rd]; rw [if_neg hc, if_neg h1, if_neg h2, if_neg h3]
  have hC255 := c.toNat_lt
  obtain ⟨C, hC⟩ : ∃ C : Nat, C = c.toNat := ⟨_, rfl⟩
  have HC : Hid (hd (c :: r) = C) := by rw [hC]; rfl
  rw [← hC] at hc h1 h2 h3 hC255
  have e1 : ((C : Int) == 33) = false := by simp; omega
  have e2 : ((C : Int) == 35) = false := by simp; omega
  have e3 : ((C : Int) == 40) = false := by simp; omega
  clear h hC hl h1 h2 h3
  by_cases h48 : 48 ≤ C
  · have d1 : decide ((48 : Int) ≤ (C : Int)) = true := by simp; omega
    have d1' : decide (48 ≤ C) = true := by simp; omega
    have w1 : IntKind.u8.wrap ((C : Int) - 48) = ((C - 48 : Nat) : Int) := by rw [IntKind.wrap_u8]; omega
    have w2 : IntKind.i64.wrap ((C - 48 : Nat) : Int) = ((C - 48 : Nat) : Int) := by rw [IntKind.wrap_i64]; omega
    generalize C - 48 = I at *
    have d2 : decide ((I : Int) < (p : Int)) = false := by simp; omega
    have d2' : decide (I < p) = false := by simp; omega
    clear hc h48
    go_enter Try.func59, Try.ntmps59
    go_wp2_with fail
    with_reducible refine T.out.mono ?_
    rintro e W1 ⟨rfl, hL, ht, hs⟩
    rw [HC.out]
    have c0 : W1.cell? ⟨g, 0, none⟩ = some (.int .i64 (p : Int)) := by rw [cell_of_row W1 g 0 _ _ _ hL]; rfl
    have HL := Lib.hid (show Lis W1 g p r from hL)
    have HT := Lib.hid ht
    clear hL ht hs
    go_wp2
    go_ret
    exact ⟨_, rfl, by rw [HR.out]; rfl, by rw [HR.out]; exact HL.out, HT.out⟩
  · have d1 : decide ((48 : Int) ≤ (C : Int)) = false := by simp; omega
    have d1' : decide (48 ≤ C) = false := by simp; omega
    clear hc h48
    go_enter Try.func59, Try.ntmps59
    go_wp2_with fail
    with_reducible refine T.out.mono ?_
    rintro e W1 ⟨rfl, hL, ht, hs⟩
    rw [HC.out]
    have HL := Lib.hid (show Lis W1 g p r from hL)
    have HT := Lib.hid ht
    clear hL ht hs
    go_wp2
    go_ret
    exact ⟨_, rfl, by rw [HR.out]; rfl, by rw [HR.out]; exact HL.out, HT.out⟩

theorem hear_any (p : Nat) (hp : p ≤ 5) : ∀ n, HearAt p n := by
  intro n
  induction n with
  | zero =>
    intro l g W hn _ h
    obtain rfl : l = [] := List.length_eq_zero_iff.1 (by omega)
    refine (hear_nil g p W h).mono ?_
    rintro e w' ⟨rfl, hL, ht⟩
    exact ⟨_, rfl, rfl, hL, ht⟩
  | succ n ih =>
    intro l g W hn hl h
    cases l with
    | nil =>
      refine (hear_nil g p W h).mono ?_
      rintro e w' ⟨rfl, hL, ht⟩
      exact ⟨_, rfl, rfl, hL, ht⟩
    | cons c r =>
      have hn' : r.length ≤ n := by simpa using hn
      by_cases hc : 48 ≤ c.toNat ∧ c.toNat - 48 < p
      · exact hear_kn p n g c r W hp hl h hc
      · by_cases h1 : c.toNat = 33
        · exact hear_no p n g c r W ih hn' hl h h1
        · by_cases h2 : c.toNat = 35
          · exact hear_num p n g c r W hl h h2
          · by_cases h3 : c.toNat = 40
            · exact hear_two p n g c r W ih hn' hl h h3
            · exact hear_else p n g c r W hl h hc h1 h2 h3
end Go.Proofs.Ytajelgheccfcoaa

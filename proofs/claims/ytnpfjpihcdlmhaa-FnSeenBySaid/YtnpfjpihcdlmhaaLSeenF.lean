/- The walk of the law on SeenBy. -/
import Derived.Test.YtnpfjpihcdlmhaaSeen
import Derived.Test.YtnpfjpihcdlmhaaDraws
import Derived.Test.YtnpfjpihcdlmhaaAlive
namespace Go.Proofs.Ytnpfjpihcdlmhaa
open Go.RowKit

theorem rd_init {w : World} {a : Option Addr} {c : Nat} {z : Int} {zs : List Int} (h : Rd w (.slice a (zs.length + 1) c) (zs ++ [z])) : Rd w (.slice a zs.length c) zs := by
  obtain ⟨a', c', e, h1, h2, h3⟩ := h
  injection e with e1 e2 e3
  subst e1 e3
  rw [List.length_append, List.length_singleton] at h1
  refine ⟨_, _, rfl, by omega, h2, fun h0 => ?_⟩
  obtain ⟨g, off, e, hg, hc⟩ := h3 (by simp)
  refine ⟨g, off, e, hg, fun j hj => ?_⟩
  rw [hc j (by simp; omega)]
  simp only [List.getD]
  rw [List.getElem?_append_left hj]

theorem visB_init {p z : Int} {zs : List Int} (h : visB p (zs ++ [z]) = true) : visB p zs = true ∧ 0 ≤ z ∧ z < p := by
  simp only [visB, allB, Bool.and_eq_true, decide_eq_true_eq, List.all_append, List.all_cons, List.length_append, List.length_singleton] at h ⊢
  have hz := inB_in h.2.2.2.1
  refine ⟨⟨h.1, by omega, h.2.2.1⟩, by omega, by omega⟩

theorem seen_init {p z : Int} {zs : List Int} (h : visB p (zs ++ [z]) = true) : seenI p zs ≤ seenI p (zs ++ [z]) ∧ seenI p (zs ++ [z]) ≤ seenI p zs + 1 := by
  obtain ⟨h1, h2, h3⟩ := visB_init h
  unfold seenI
  rw [if_pos h, if_pos h1, seenN_snoc zs z p.toNat h2 (by omega)]
  split <;> omega

set_option maxRecDepth 100000 in
theorem walk_FnSeenBy (a0 : Option Addr) (len0 cap0 : Nat) (z0 : List Int) (w : World) (w0 : IsRowB .u8 w a0 len0 cap0 z0) :
    Calls Try.prog 13 #[.slice a0 len0 cap0] w fun e w' => e = .returned (.bool true) ∧ Below w.heap.size w w' := by
  by_cases hlen : 1048576 < len0
  · go_enter Try.func13, Try.ntmps13
    go_wp2
    go_ret
    exact ⟨rfl, Below.refl _ _⟩
  · go_enter Try.func13, Try.ntmps13
    go_wp2_with fail
    refine (DrawSeenBy_any _ _ _ _ _ w0).mono ?_
    rintro e w1 ⟨⟨P, v, zs, rfl, ⟨hP0, hP1, hl, hz, -⟩, ho⟩, b1⟩
    have hR := ho.rd
    have s1 := b1.size
    have hzb : ∀ z ∈ zs, -9223372036854775808 ≤ z ∧ z ≤ 9223372036854775807 := fun z h => by have := hz z h; omega
    have HZ := Lib.hid hzb
    clear ho w0 hzb hz
    go_wp2_with fail
    refine (implSeenBy_any _ zs _ _ hR HZ.out).mono ?_
    rintro e w2 ⟨rfl, b2⟩
    have hR2 := hR.below b2
    have bb := b1.trans (b2.mono s1)
    have s2 := b2.size
    clear b1 b2 hR
    obtain ⟨n, hn⟩ : ∃ n, n = seenI P zs := ⟨_, rfl⟩
    rw [← hn]
    have hbd : visB P zs = false ∧ n = -1 ∨ visB P zs = true ∧ 0 ≤ n ∧ n ≤ P := by
      rcases Bool.eq_false_or_eq_true (visB P zs) with hb | hb
      · right
        have h1 := (visB_yes hb).1
        have := seenN_bd zs P.toNat
        rw [hn]; unfold seenI; rw [if_pos hb]
        exact ⟨hb, by omega, by omega⟩
      · left; rw [hn]; unfold seenI; rw [if_neg (by simp [hb])]; exact ⟨hb, rfl⟩
    have HV := Lib.hid hn; clear hn
    go_wp2_with fail
    refine (specSeenBy_any _ zs _ _ hR2 (by omega)).mono ?_
    rintro e w3 ⟨rfl, rfl⟩
    rw [← HV.out]
    have HF := Lib.hid bb; clear bb
    rcases hbd with ⟨hb, rfl⟩ | ⟨hb, hn0, hn1⟩
    · clear hb HV
      go_wp2_with fail
      refine (alive_true _).mono ?_
      rintro e w5 ⟨rfl, rfl⟩
      go_wp2
      go_ret
      exact ⟨rfl, HF.out⟩
    · rcases List.eq_nil_or_concat zs with rfl | ⟨l, z, rfl⟩
      · have h0 : n = 0 := by
          rw [HV.out]
          unfold seenI
          rw [if_pos hb]
          have : (List.filter (fun k : Nat => hasB (k : Int) []) (List.range P.toNat)) = [] := List.filter_eq_nil_iff.2 (by simp [hasB])
          unfold seenN; rw [this]; rfl
        subst h0
        clear HV hb
        obtain ⟨a, c, e, -⟩ := hR2
        subst e
        go_wp2_with fail
        go_ret
        exact ⟨rfl, HF.out⟩
      · rw [List.concat_eq_append] at *
        have hs := seen_init hb
        rw [← HV.out] at hs
        obtain ⟨m, hm⟩ : ∃ m, m = seenI P l := ⟨_, rfl⟩
        rw [← hm] at hs
        have HM := Lib.hid hm
        clear HV hb hm
        have hR3 := hR2
        obtain ⟨a, c, e, m1, m2, m3⟩ := hR2
        rw [List.length_append, List.length_singleton] at *
        subst e
        obtain ⟨g, off, rfl, -⟩ := m3 (by omega)
        have hRi := rd_init hR3
        clear m3 hR3
        have hne : (((l.length + 1 : Nat) : Int) == 0) = false := by simp; omega
        obtain ⟨hs1, hs2⟩ := hs
        go_wp2_with fail
        refine (implSeenBy_any _ l _ _ hRi (fun z h => HZ.out z (by simp [h]))).mono ?_
        rintro e w5 ⟨rfl, b5⟩
        rw [← HM.out]
        have HF2 := Lib.hid (HF.out.trans (b5.mono (by omega)))
        clear b5
        have hmb : -9223372036854775808 ≤ m + 1 ∧ m + 1 ≤ 9223372036854775807 := by omega
        go_wp2_with fail
        go_ret
        exact ⟨rfl, HF2.out⟩
end Go.Proofs.Ytnpfjpihcdlmhaa

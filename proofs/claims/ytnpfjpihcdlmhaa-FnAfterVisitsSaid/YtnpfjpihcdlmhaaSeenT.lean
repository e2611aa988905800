/- Who has put the switch on was there; when all are counted, all were there. Plain words. -/
import Derived.Test.YtnpfjpihcdlmhaaSpecT
import Derived.Test.YtnpfjpihcdlmhaaSeen
namespace Go.Proofs.Ytnpfjpihcdlmhaa
open Go.RowKit

theorem hasB_snoc (x z : Int) (l : List Int) : hasB x (l ++ [z]) = (hasB x l || decide (x = z)) := by
  unfold hasB; simp

/-- Who has done it is among the visitors; if somebody is counted, the counter is. -/
def WasIn (s : Int × Int × List Int) (l : List Int) : Prop := (∀ q, q < s.2.2.length → s.2.2.getD q 0 = 1 → hasB (q : Int) l = true) ∧ (0 < s.2.1 → hasB 0 l = true)

theorem wasIn_at {p : Int} {zs : List Int} (hv : visB p zs = true) : ∀ k, k ≤ zs.length → WasIn (stV p zs k) (zs.take k)
  | 0, _ => by
    rw [stV_zero]
    refine ⟨fun q hq h => ?_, fun h => absurd h (by simp)⟩
    exfalso
    simp only [newDone] at hq h
    split at h
    · rename_i h1
      rw [if_pos h1] at hq
      simp only [List.length_replicate] at hq
      simp [List.getD, hq] at h
    · simp at h
  | k + 1, hk => by
    obtain ⟨i1, i2⟩ := wasIn_at hv k (by omega)
    obtain ⟨hrb, hrl⟩ := stV_len hv k (by omega)
    have hz := (visB_yes hv).2.2.2 (zs.getD k 0) (by simp [List.getD, List.getElem?_eq_getElem (show k < zs.length by omega)])
    rw [stV_succ p zs k (by omega), take_snoc zs k (by omega)]
    generalize zs.getD k 0 = z at *
    generalize stV p zs k = s at *
    obtain ⟨P, rfl⟩ := Int.eq_ofNat_of_zero_le hz.1
    unfold WasIn
    rw [hasB_snoc]
    show (∀ q, q < (vDone s.1 s.2.2 P).length → (vDone s.1 s.2.2 P).getD q 0 = 1 → hasB (q : Int) (zs.take k ++ [(P : Int)]) = true) ∧ (0 < vCnt s.1 s.2.1 P → (hasB 0 (zs.take k) || decide ((0 : Int) = (P : Int))) = true)
    constructor
    · intro q hq h
      rw [hasB_snoc]
      rw [length_vDone] at hq
      by_cases hqP : q = P
      · subst hqP; simp
      · have : (vDone s.1 s.2.2 P).getD q 0 = s.2.2.getD q 0 := by
          unfold vDone
          split
          · simp only [List.getD]; rw [List.getElem?_set_ne (fun e => hqP e.symm)]
          · rfl
        rw [this] at h
        rw [i1 q hq h]; rfl
    · intro h
      by_cases h0 : P = 0
      · subst h0; simp
      · unfold vCnt at h
        rw [if_neg h0] at h
        rw [i2 h]; rfl

theorem ones_of_sum : ∀ (l : List Int), (∀ z ∈ l, 0 ≤ z ∧ z ≤ 1) → sumI l = l.length → ∀ z ∈ l, z = 1
  | [], _, _, z, hz => absurd hz (by simp)
  | a :: l, h, hs, z, hz => by
    have ha := h a (by simp)
    have hb := sumI_bd 1 l (fun z hz => h z (by simp [hz]))
    rw [sumI_cons, List.length_cons] at hs
    have hl : sumI l = l.length := by omega
    rcases List.mem_cons.1 hz with rfl | hz
    · omega
    · exact ones_of_sum l (fun z hz => h z (by simp [hz])) hl z hz

theorem all_seen {p : Int} {zs : List Int} {k : Nat} (hv : visB p zs = true) (hk : k ≤ zs.length) (hp : p ≠ 1) (ht : toldAt p zs k = true) : ∀ q : Nat, (q : Int) < p → hasB (q : Int) (zs.take k) = true := by
  intro q hq
  obtain ⟨h1, h2⟩ := stV_len hv k hk
  obtain ⟨w1, w2⟩ := wasIn_at hv k hk
  obtain ⟨r1, r2, r3, r4, r5, r6, r7, r8⟩ := roomB_yes h1
  have hp1 := (visB_yes hv).1
  have ht' : (stV p zs k).2.1 = p - 1 := of_decide_eq_true ht
  generalize stV p zs k = s at *
  obtain ⟨sw, cnt, dn⟩ := s
  simp only at *
  by_cases h0 : q = 0
  · subst h0; exact w2 (by omega)
  · cases dn with
    | nil => simp at r1
    | cons a t =>
      have ha : a = 0 := by simpa using r7
      have hb := sumI_bd 1 t (fun z hz => r3 z (by simp [hz]))
      rw [sumI_cons] at r8
      rw [List.length_cons] at h2
      have hall := ones_of_sum t (fun z hz => r3 z (by simp [hz])) (by omega)
      have hqt : q - 1 < t.length := by omega
      refine w1 q (by rw [List.length_cons]; omega) ?_
      obtain ⟨j, rfl⟩ : ∃ j, q = j + 1 := ⟨q - 1, by omega⟩
      rw [List.getD_cons_succ]
      have hj : j < t.length := by omega
      have := hall (t[j]) (List.getElem_mem hj)
      simp [List.getD, List.getElem?_eq_getElem hj, this]

theorem visB_take {p : Int} {zs : List Int} (hv : visB p zs = true) (k : Nat) : visB p (zs.take k) = true := by
  simp only [visB, allB, Bool.and_eq_true, decide_eq_true_eq, List.all_eq_true] at hv ⊢
  refine ⟨hv.1, by rw [List.length_take]; omega, fun z hz => hv.2.2 z (List.mem_of_mem_take hz)⟩

theorem toldI_pos {p n : Int} {zs : List Int} (hn : n = toldI p zs) (h0 : 0 ≤ n) (hp : p ≠ 1) : ∃ k : Nat, n = (k : Int) ∧ 0 < k ∧ k ≤ zs.length ∧ visB p zs = true ∧ seenI p (zs.take k) = p ∧ toldI p (zs.take (k - 1)) = -1 := by
  rw [← toldS_eq] at hn
  unfold toldS at hn
  rcases Bool.eq_false_or_eq_true (visB p zs) with hv | hv
  · rw [if_pos hv] at hn
    cases hf : (List.range (zs.length + 1)).find? (fun k => toldAt p zs k) with
    | none => rw [hf] at hn; simp at hn; omega
    | some k =>
      rw [hf] at hn
      simp only at hn
      have hk := List.mem_range.1 (List.mem_of_find?_eq_some hf)
      have ht : toldAt p zs k = true := by simpa using List.find?_some hf
      have hno : ∀ j, j < k → toldAt p zs j = false := by
        intro j hj
        rw [List.find?_range_eq_some] at hf
        simpa using hf.2.2 j hj
      have hp1 := (visB_yes hv).1
      have hk0 : 0 < k := by
        rcases Nat.eq_zero_or_pos k with rfl | h
        · exfalso
          have : (0 : Int) = p - 1 := of_decide_eq_true ht
          omega
        · exact h
      refine ⟨k, hn, hk0, by omega, hv, ?_, ?_⟩
      · unfold seenI
        rw [if_pos (visB_take hv k)]
        unfold seenN
        have : (List.range p.toNat).filter (fun q : Nat => hasB (q : Int) (zs.take k)) = List.range p.toNat := List.filter_eq_self.2 fun q hq => all_seen hv (by omega) hp ht q (by have := List.mem_range.1 hq; omega)
        rw [this, List.length_range]; omega
      · refine toldS_no (visB_take hv (k - 1)) fun j hj => ?_
        have hl : (zs.take (k - 1)).length = k - 1 := by rw [List.length_take]; omega
        have := hno j (by omega)
        unfold toldAt stV at this ⊢
        rw [List.take_take, Nat.min_eq_left (by omega)]
        exact this
  · rw [hv] at hn; simp at hn; omega
end Go.Proofs.Ytnpfjpihcdlmhaa

/- CirclesOf of the program: the walk. -/
import Derived.Test.YtdpijiccolbljaaCircP
namespace Go.Proofs.Ytdpijiccolbljaa
open Go.RowKit

set_option maxHeartbeats 1600000 in
set_option maxRecDepth 100000 in
theorem implCirclesOf_any (v : Value) (zs : List Int) (w : World) (h : Rd w v zs) :
    Calls Try.prog 32 #[v] w fun e w' => ∃ v', e = .returned v' ∧ Own w' w.heap.size w'.heap.size v' (circI zs) ∧ Below w.heap.size w w' := by
  obtain ⟨i0, hi, hz0, hz1, hz2⟩ := info_parts infoInt
  have hR := h
  obtain ⟨a1, c1, rfl, l1, m1, -⟩ := h
  go_enter Try.func32, Try.ntmps32
  go_wp2_with fail
  refine (implBoxesOk_any _ zs _ hR).mono ?_
  rintro e w' ⟨rfl, rfl⟩
  rcases Bool.eq_false_or_eq_true (boxB zs) with hb | hb
  rotate_left
  · rw [hb]
    have HF := Lib.hid (circI_no hb)
    clear hb
    go_wp2
    go_ret
    exact ⟨_, rfl, by rw [HF.out]; exact own_nil _ _ _, Below.refl _ _⟩
  rw [hb]
  obtain ⟨ns, rfl, hP⟩ := boxB_perm hb
  have HF := Lib.hid (circI_iz hP)
  have HSO := Lib.hid hP.some
  have h7 := hP.hi
  rw [length_iz] at hR l1 ⊢
  have HR := Lib.hid hR
  obtain ⟨w, hw⟩ : ∃ w : World, w = w' := ⟨_, rfl⟩
  subst hw
  clear hb hR
  go_wp2_with fail
  go_loopg [3, 11] ns.length (fun g v i wr => ∃ k : Nat, k ≤ ns.length ∧ g = ns.length - k ∧ i = .int .i64 k ∧ wr.ownsRow w.heap.size 3 1 v (iz (circK (nx ns) k)).length ((iz (circK (nx ns) k)).map (Value.int .i64)) ∧ Below w.heap.size w wr ∧ w.heap.size ≤ wr.heap.size)
  case atStart => exact ⟨0, Nat.zero_le _, rfl, rfl, (own_nil _ _ 0).1, Below.refl _ _, Nat.le_refl _⟩
  case round =>
    obtain ⟨k, hk, rfl, rfl, ho, hb, hs⟩ := hrel
    by_cases hlt : k < ns.length
    · have hRr := HR.out.below hb
      have HO := Lib.hid ho
      have HB := Lib.hid hb
      have hlk := length_circK (nx ns) k
      have hol := length_orb ns k
      have ho0 : 0 < (orb ns k).length := by obtain ⟨l, e⟩ := orb_cons ns k; rw [e]; simp
      have hfst : nx (orb ns k) 0 = k := by obtain ⟨l, e⟩ := orb_cons ns k; rw [e]; rfl
      have HN : Hid (circK (nx ns) (k + 1) = if minN (orb ns k) k = k then circK (nx ns) k ++ [(orb ns k).length] else circK (nx ns) k) := circK_succ (nx ns) k
      have HFS := Lib.hid hfst
      clear ho hb hfst
      go_wp2_with fail
      with_reducible refine (opened_any _ ns k _ hRr hP hlt).mono ?_
      rintro e w2 ⟨v2, rfl, o2, b2⟩
      have s2 := b2.size
      have HB2 := Lib.hid (HB.out.trans (b2.mono hs))
      have HO2 := Lib.hid ((Own.new HO.out (Nat.le_refl _)).below b2 (Nat.le_refl _)).1
      have hr2 := o2.rd
      have hs2 : w.heap.size ≤ w2.heap.size := by omega
      clear HO HB b2
      go_wp2_with fail
      with_reducible refine (min_any _ (orb ns k) _ hr2 ho0).mono ?_
      rintro e w' ⟨rfl, rfl⟩
      rw [HFS.out]
      obtain ⟨A2, c2, rfl⟩ := own_form o2
      rw [length_iz]
      obtain ⟨m, hm⟩ : ∃ m, m = minN (orb ns k) k := ⟨_, rfl⟩
      rw [← hm] at HN ⊢
      generalize (orb ns k).length = L at *
      by_cases hmk : m = k
      · have hq : ((m : Int) == (k : Int)) = true := by rw [hmk]; simp
        have HN2 : Hid (circK (nx ns) (k + 1) = circK (nx ns) k ++ [L]) := by unfold Hid; rw [HN.out, if_pos hmk]
        have hlk2 : (iz (circK (nx ns) k)).length ≤ 7 := by rw [length_iz]; omega
        have ho := HO2.out
        clear hm hmk HN HO2
        go_wp2_with (first | (at_builtin; go_loud (refine wpList_append_own _ rfl _ _ 22 rfl w.heap.size 3 i0 (.int .i64 0) 1 8 Try.underlying22 hi hz0 hz1 hz2 rfl (by decide) _ _ _ rfl (ho.alloc _) ⟨_, 0, none⟩ 1 1 [.int .i64 (L : Int)] rfl rfl (one_new _ _ _) ?c2 ?c3 ?c4 ?c5 ?_)) | go_in)
        case c2 => first | exact one_cell _ _ | rfl
        case c3 => unfold maxLen; omega
        case c4 => omega
        case c5 => first | omega | (simp; omega)
        intro v' w3 hown' hgr _
        have hrel := app_rel ho HB2.out (Nat.le_refl _) hs2 hown' hgr
        have HR3 := Lib.hid hrel
        clear hrel hown' hgr ho hz0 hz1 hz2 hi
        go_wp2
        go_roundg (ns.length - (k + 1))
        case measure => omega
        case rel => exact ⟨k + 1, by omega, rfl, by go_num, by rw [HN2.out]; exact snoc_iz HR3.out.1, HR3.out.2.1, HR3.out.2.2⟩
      · have hq : ((m : Int) == (k : Int)) = false := by rw [beq_eq_false_iff_ne]; omega
        have HN2 : Hid (circK (nx ns) (k + 1) = circK (nx ns) k) := by unfold Hid; rw [HN.out, if_neg hmk]
        clear hm hmk HN
        go_wp2
        go_roundg (ns.length - (k + 1))
        case measure => omega
        case rel => exact ⟨k + 1, by omega, rfl, by go_num, by rw [HN2.out]; exact HO2.out, HB2.out, hs2⟩
    · have hk' : k = ns.length := by omega
      subst hk'
      have hl0 := HSO.out
      have hl7 := length_circK (nx ns) ns.length
      have ho2 : Own wr w.heap.size wr.heap.size _ (iz (circK (nx ns) ns.length)) := Own.new ho (Nat.le_refl _)
      obtain ⟨A, c, hv⟩ := own_form ho2
      rw [hv] at ho2
      obtain ⟨g, rfl⟩ := own_block ho2 (by rw [length_iz]; exact hl0)
      rw [length_iz] at hv ho2
      rw [hv]
      clear hv ho
      generalize hcs : circK (nx ns) ns.length = cs at *
      have HCS := Lib.hid hcs
      have HB := Lib.hid hb
      clear hcs hb
      go_wp2_with fail
      with_reducible refine (sort_any _ _ g c cs _ ho2 hl0 (by omega)).mono ?_
      rintro e w5 ⟨rfl, o5, t5⟩
      have s5 := t5.size
      have HO5 : Hid (Own w5 w.heap.size w5.heap.size (.slice (some ⟨g, 0, none⟩) cs.length c) (circI (iz ns))) := by
        unfold Hid
        rw [HF.out]
        unfold circG
        rw [HCS.out]
        exact o5.wide (Nat.le_refl _) s5
      have HB5 := Lib.hid (below_turned HB.out t5 (Nat.le_refl _) hs)
      clear o5 t5 ho2
      go_wp2
      go_ret
      exact ⟨_, rfl, HO5.out, HB5.out⟩
end Go.Proofs.Ytdpijiccolbljaa

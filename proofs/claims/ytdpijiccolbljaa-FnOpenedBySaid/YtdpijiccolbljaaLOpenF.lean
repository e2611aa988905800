/- The walk of the law on OpenedBy. -/
import Derived.Test.YtdpijiccolbljaaOpenBy
import Derived.Test.YtdpijiccolbljaaCircP
import Derived.Test.YtdpijiccolbljaaDrawsBx
import Derived.Test.YtdpijiccolbljaaAlive
namespace Go.Proofs.Ytdpijiccolbljaa
open Go.RowKit

theorem chkO_cons (g : Nat → Nat) (p L : Nat) (pre : List Nat) (q : Nat) (r : List Nat) : chkO g p L pre (q :: r) = cond (hasN q pre) false (cond (Nat.beq (lenN (orbG g q 7 q)) L) (cond (hasN p (orbG g q 7 q)) (cond (match r with | [] => Nat.beq (g q) p | _ :: _ => cond (Nat.beq (g q) p) false true) (chkO g p L (q :: pre) r) false) false) false) := rfl
theorem chkO_out {g : Nat → Nat} {p L : Nat} : ∀ {l pre : List Nat}, chkO g p L pre l = true → ∀ k, k < l.length →
    nx l k ∉ pre ∧ nx l k ∉ l.take k ∧ (orbG g (nx l k) 7 (nx l k)).length = L ∧ p ∈ orbG g (nx l k) 7 (nx l k) ∧ (g (nx l k) = p ↔ k + 1 = l.length)
  | [], _, _, k, hk => absurd hk (by simp)
  | q :: r, pre, h, k, hk => by
    have h' := h
    rw [chkO_cons] at h'
    have h1 : hasN q pre = false := by
      cases hq : hasN q pre
      · rfl
      · rw [hq] at h'; cases h'
    rw [h1, cond_false] at h'
    obtain ⟨h2, h'⟩ := cond_and h'
    obtain ⟨h3, h'⟩ := cond_and h'
    obtain ⟨h4, h5⟩ := cond_and h'
    cases k with
    | zero =>
      refine ⟨fun hc => ?_, by simp, ?_, (hasN_iff _ _).1 h3, ?_⟩
      · rw [← hasN_iff, show nx (q :: r) 0 = q from rfl, h1] at hc; cases hc
      · have := Nat.eq_of_beq_eq_true h2
        rwa [lenN_eq] at this
      · show g q = p ↔ _
        cases r with
        | nil => exact ⟨fun _ => rfl, fun _ => Nat.eq_of_beq_eq_true h4⟩
        | cons b r =>
          refine ⟨fun hc => ?_, fun hc => by simp at hc⟩
          have h6 : cond (Nat.beq (g q) p) false true = true := h4
          rw [hc, Nat.beq_refl] at h6; cases h6
    | succ k =>
      have hk' : k < r.length := by simpa using hk
      obtain ⟨i1, i2, i3, i4, i5⟩ := chkO_out h5 k hk'
      refine ⟨fun hc => i1 (by simp [show nx r k ∈ pre from hc]), fun hc => ?_, i3, i4, ?_⟩
      · rcases List.mem_cons.1 (show nx r k ∈ q :: r.take k from hc) with e | e
        · exact i1 (by rw [e]; simp)
        · exact i2 e
      · show g (nx r k) = p ↔ _
        rw [i5]; simp
theorem Perm7.opens {ns : List Nat} (h : Perm7 ns) {p : Nat} (hp : p < ns.length) {k : Nat} (hk : k < (orb ns p).length) :
    nx (orb ns p) k ∉ (orb ns p).take k ∧ (orb ns (nx (orb ns p) k)).length = (orb ns p).length ∧ p ∈ orb ns (nx (orb ns p) k) ∧ (nx ns (nx (orb ns p) k) = p ↔ k + 1 = (orb ns p).length) := by
  have h1 := (cond_and (allN_out h.ofA p hp)).2
  rw [lenN_eq] at h1
  obtain ⟨-, i2, i3, i4, i5⟩ := chkO_out h1 k hk
  exact ⟨i2, i3, i4, i5⟩
theorem rd_take {w : World} {a : Option Addr} {n c k : Nat} {ns : List Nat} (h : Rd w (.slice a n c) (iz ns)) (hk : k ≤ ns.length) : Rd w (.slice a k c) (iz (ns.take k)) := by
  obtain ⟨a', c', e, h1, h2, h3⟩ := h
  injection e with e1 e2 e3
  subst e1 e3
  rw [length_iz] at h1 h3
  have hl : (iz (ns.take k)).length = k := by rw [length_iz, List.length_take]; omega
  refine ⟨a, c, by rw [hl], by omega, h2, fun h0 => ?_⟩
  rw [hl] at h0 ⊢
  obtain ⟨g, off, rfl, hg, hc⟩ := h3 (by omega)
  refine ⟨g, off, rfl, hg, fun j hj => ?_⟩
  rw [hc j (by omega), getD_iz, getD_iz, nx_take _ _ _ hj]

set_option maxHeartbeats 3200000 in
set_option maxRecDepth 100000 in
theorem walk_FnOpenedBy (a0 : Option Addr) (len0 cap0 : Nat) (z0 : List Int) (w : World) (w0 : IsRowB .u8 w a0 len0 cap0 z0) :
    Calls Try.prog 12 #[.slice a0 len0 cap0] w fun e w' => e = .returned (.bool true) ∧ Below w.heap.size w w' := by
  by_cases hlen : 1048576 < len0
  · go_enter Try.func12, Try.ntmps12
    go_wp2
    go_ret
    exact ⟨rfl, Below.refl _ _⟩
  · go_enter Try.func12, Try.ntmps12
    go_wp2_with fail
    with_reducible refine (DrawOpenedBy_any _ _ _ _ _ w0).mono ?_
    rintro e w1 ⟨⟨v, zs, p, rfl, hl, hr⟩, b1⟩
    clear w0
    go_wp2_with fail
    with_reducible refine (implOpenedBy_any _ zs p _ hr).mono ?_
    rintro e w2 ⟨v2, rfl, o2, b2⟩
    have hr2 := hr.below b2
    have bb := b1.trans (b2.mono b1.size)
    clear b1 b2 hr
    go_wp2_with fail
    with_reducible refine (specOpenedBy_any _ zs p _ hr2).mono ?_
    rintro e w3 ⟨v3, rfl, o3, b3⟩
    have hr3 := hr2.below b3
    have q2 := o2.rd.below b3
    have q3 := o3.rd
    have bb := bb.trans (b3.mono bb.size)
    clear b3 hr2 o2 o3
    go_wp2_with fail
    with_reducible refine (sameInts_true _ _ _ _ q2 q3).mono ?_
    rintro e w4 ⟨rfl, n, rfl⟩
    have HB := Lib.hid (below_drewN bb n)
    have hr2 := hr3.drewN n
    have q2 := q2.drewN n
    clear bb hr3 q3
    generalize w3.drewN n = w2 at *
    rcases Bool.eq_false_or_eq_true (openB zs p) with hb | hb
    rotate_left
    · rw [openI_no hb] at q2
      obtain ⟨A, c, rfl, -, -, -⟩ := q2
      clear hb
      simp only [List.length_nil]
      go_wp2_with fail
      with_reducible refine (alive_true _).mono ?_
      rintro e w' ⟨rfl, rfl⟩
      go_wp2
      go_ret
      exact ⟨rfl, HB.out⟩
    · obtain ⟨ns, p, rfl, rfl, hP, hp, he⟩ := openB_out hb
      rw [he] at q2
      have HOP := Lib.hid (fun k hk => hP.opens hp (k := k) hk)
      have HLT := Lib.hid (hP.orb_lt hp)
      have HOI := Lib.hid (fun k hk => openI_iz hP (k := k) hk)
      have HFST : Hid (nx (orb ns p) 0 = p) := by obtain ⟨l, e⟩ := orb_cons ns p; unfold Hid; rw [e]; rfl
      have hol := length_orb ns p
      have h7 := hP.hi
      obtain ⟨K, hK⟩ : ∃ K, (orb ns p).length = K + 1 := by obtain ⟨l, e⟩ := orb_cons ns p; exact ⟨l.length, by rw [e]; rfl⟩
      obtain ⟨o, ho⟩ : ∃ o, o = orb ns p := ⟨_, rfl⟩
      rw [← ho] at HOP HLT HFST hol hK q2
      have HK := Lib.hid hK
      obtain ⟨A2, c2, rfl, l2, m2⟩ := rdN_out q2
      rw [hK] at hol l2 ⊢
      obtain ⟨g2, off2, rfl, -, -⟩ := rdN_at q2 0 (by omega)
      have HQ := Lib.hid q2
      have HRR := Lib.hid hr2
      have hs2 := HB.out.size
      obtain ⟨wo, hwo⟩ : ∃ wo : World, wo = w2 := ⟨_, rfl⟩
      subst hwo
      obtain ⟨A1, c1, rfl, l1, m1⟩ := rdN_out hr2
      have hK0 : ((K : Int) + 1 == 0) = false := by rw [beq_eq_false_iff_ne]; omega
      clear hb he ho q2 hK hr2
      go_wp2_with fail
      go_loopw [6] (fun i wr => ∃ k : Nat, k ≤ K + 1 ∧ i = .int .i64 k ∧ Below wo.heap.size wo wr) (fun i _ => K + 1 - (intOf i).toNat)
      case atStart => exact ⟨0, Nat.zero_le _, rfl, Below.refl _ _⟩
      case round =>
        obtain ⟨k, hk, rfl, hbr⟩ := hrel
        by_cases hlt : k < K + 1
        · have hko : k < o.length := by rw [HK.out]; exact hlt
          obtain ⟨i1, i2, i3, i4⟩ := HOP.out k hko
          have hq2 := HQ.out.below hbr
          have hr2 := HRR.out.below hbr
          obtain ⟨g9, off9, e9, hg2, x2⟩ := rdN_at hq2 k hko
          injection e9 with e9
          injection e9 with e9 e8
          subst e9 e8
          have hql := HLT.out (nx o k) (nx_mem hko)
          have HOE := Lib.hid (HOI.out (nx o k) hql)
          rw [HK.out] at i2 i4
          have hrt := rd_take hq2 (k := k) (by omega)
          have hH1 : hasB ((nx o k : Nat) : Int) (iz (o.take k)) = false := by
            rw [Bool.eq_false_iff]
            intro hc
            rw [hasB_iff, mem_iz] at hc
            exact i1 hc
          have hH2 : hasB (p : Int) (iz (orb ns (nx o k))) = true := by rw [hasB_iff, mem_iz]; exact i3
          obtain ⟨q, hq⟩ : ∃ q, q = nx o k := ⟨_, rfl⟩
          rw [← hq] at hH1 hH2 i2 i4 hql x2 HOE
          have HBR := Lib.hid hbr
          have I4 := Lib.hid i4
          have HH1 := Lib.hid hH1
          have HH2 := Lib.hid hH2
          have HI2 := Lib.hid i2
          have HRT := Lib.hid hrt
          clear i1 i3 i4 hH1 hH2 hq hbr i2 hrt
          have X2 := Lib.hid x2
          go_wp2_with fail
          with_reducible refine (implOpenedBy_any _ (iz ns) q _ hr2).mono ?_
          rintro e w5 ⟨v5, rfl, o5, b5⟩
          rw [HOE.out] at o5
          have r5 := o5.rd
          obtain ⟨A5, c5, rfl, l5, m5⟩ := rdN_out r5
          rw [HI2.out] at l5 ⊢
          have hr5 := hr2.below b5
          obtain ⟨g8, off8, rfl, hg8, x8⟩ := rdN_at hr5 q hql
          have y2 := (b5.cell (p := ⟨g2, off2 + k, none⟩) hg2).trans X2.out
          have HB5 := Lib.hid (HBR.out.trans (b5.mono HBR.out.size))
          have T1 : Hid (∀ n, Calls Try.prog 40 #[.slice (some ⟨g2, off2, none⟩) k c2, .int .i64 (q : Int)] (w5.drewN n) fun e w' => e = .returned (.bool false) ∧ w' = w5.drewN n) := fun n => by
            have := hasInt_any _ (iz (o.take k)) (q : Int) (w5.drewN n) ((HRT.out.below b5).drewN n)
            rw [HH1.out] at this; exact this
          have T2 : Hid (∀ n, Calls Try.prog 40 #[.slice A5 (K + 1) c5, .int .i64 (p : Int)] (w5.drewN n) fun e w' => e = .returned (.bool true) ∧ w' = w5.drewN n) := fun n => by
            have := hasInt_any _ (iz (orb ns q)) (p : Int) (w5.drewN n) ((show Rd w5 (.slice A5 (K + 1) c5) (iz (orb ns q)) by rw [← HI2.out]; exact r5).drewN n)
            rw [HH2.out] at this; exact this
          have hwr : IntKind.i64.wrap ((K : Int) + 1 - 1) = (K : Int) := by rw [IntKind.wrap_i64]; omega
          have hqn : (q : Int) < ns.length := by omega
          have hkK : (k : Int) < (K : Int) + 1 := by omega
          have hkc : (k : Int) ≤ c2 := by omega
          have hkc2 : k ≤ c2 := by omega
          have hk1 : k ≤ K + 1 := by omega
          have hc20 : ¬ c2 = 0 := by omega
          obtain ⟨b, hbb⟩ : ∃ b, b = nx ns q := ⟨_, rfl⟩
          rw [← hbb] at x8 I4
          clear hr2 hr5 o5 b5 r5 hbb x2 HRT HBR hq2
          by_cases hlast : k = K
          · have e1 : ((b : Int) == (p : Int)) = true := by rw [I4.out.2 (by omega)]; simp
            have e2 : ((k : Int) == (K : Int)) = true := by rw [hlast]; simp
            clear hlast
            go_wp2
            go_quiet ((first | (go_at_call 40; with_reducible exact Calls.quiet_of_same (T1.out _)) | (go_at_call 40; with_reducible exact Calls.quiet_of_same (T2.out _))))
            go_wp2
            go_roundw
            case rel => exact ⟨k + 1, by omega, by go_num, below_drewN HB5.out _⟩
            case measure => simp [intOf]; omega
          · have e1 : ((b : Int) == (p : Int)) = false := by rw [beq_eq_false_iff_ne]; exact fun h => hlast (by have := I4.out.1 (by omega); omega)
            have e2 : ((k : Int) == (K : Int)) = false := by rw [beq_eq_false_iff_ne]; omega
            clear hlast
            go_wp2
            go_quiet ((first | (go_at_call 40; with_reducible exact Calls.quiet_of_same (T1.out _)) | (go_at_call 40; with_reducible exact Calls.quiet_of_same (T2.out _))))
            go_wp2
            go_roundw
            case rel => exact ⟨k + 1, by omega, by go_num, below_drewN HB5.out _⟩
            case measure => simp [intOf]; omega
        · obtain ⟨g9, off9, e9, hg2, x2⟩ := rdN_at (HQ.out.below hbr) 0 (by rw [HK.out]; omega)
          injection e9 with e9
          injection e9 with e9 e8
          subst e9 e8
          rw [HFST.out, Nat.add_zero] at x2
          have HB5 := Lib.hid (HB.out.trans (hbr.mono hs2))
          clear hbr
          go_wp2
          go_ret
          exact ⟨ret_bool (by simp), HB5.out⟩
end Go.Proofs.Ytdpijiccolbljaa

/- Reading a way, at the specification: a first guess. -/
import Derived.Test.YtcgpfdknadijlaaCoS
namespace Go.Proofs.Ytcgpfdknadijlaa
open Go.RowKit

theorem pw_suffix : ∀ (f n : Nat) (l : List UInt8) (t : Wy) (r : List UInt8) (m : Nat), pw f n l = some (t, r, m) → ∃ p, l = p ++ r
  | 0, n, l, t, r, m, h => by cases l <;> cases h
  | f + 1, n, [], t, r, m, h => by cases h
  | f + 1, n, c :: l, t, r, m, h => by
    simp only [pw] at h
    split at h
    · injection h with h; injection h with h1 h2; injection h2 with h2 h3
      subst h2
      exact ⟨[c], rfl⟩
    · split at h
      · split at h
        · cases h
        · rename_i b r1 g hb
          obtain ⟨p1, e1⟩ := pw_suffix f n l b r1 g hb
          split at h
          · rename_i hg
            obtain ⟨d, r1', e2, -⟩ := hd_pos (l := r1) (by omega)
            split at h
            · cases h
            · rename_i o r2 m2 ho
              obtain ⟨p2, e3⟩ := pw_suffix f (g + 1) r1.tail o r2 m2 ho
              split at h
              · rename_i h41
                obtain ⟨e, r2', e4, -⟩ := hd_pos (l := r2) (by omega)
                injection h with h; injection h with h1 h2; injection h2 with h2 h3
                subst h2
                refine ⟨c :: (p1 ++ d :: (p2 ++ [e])), ?_⟩
                rw [e2] at e1 e3
                rw [List.tail_cons] at e3
                rw [e1, e3, e4]
                simp
              · cases h
          · cases h
      · cases h
theorem pw_drop {f n i : Nat} {l r : List UInt8} {t : Wy} {m : Nat} (h : pw f n (l.drop i) = some (t, r, m)) : r = l.drop (l.length - r.length) := by
  obtain ⟨p, e⟩ := pw_suffix f n (l.drop i) t r m h
  have e2 : l = (l.take i ++ p) ++ r := by rw [List.append_assoc, ← e, List.take_append_drop]
  generalize l.take i ++ p = X at e2
  have hl : l.length = X.length + r.length := by rw [← List.length_append, ← e2]
  rw [show l.length - r.length = X.length by omega]
  conv => rhs; rw [e2]
  rw [List.drop_left]

/-- The run's first guess is j. -/
def Succ (f fr to : Nat) (r : List UInt8) (j : Nat) : Prop := ∃ b r1 o r2, pw f fr r = some (b, r1, j) ∧ hd r1 = 48 + j ∧ j ≤ 9 ∧ pw f (j + 1) r1.tail = some (o, r2, to) ∧ hd r2 = 41
theorem succ_pw {f fr to j : Nat} {c : UInt8} {r r1 r2 : List UInt8} {b o : Wy} (hc : c.toNat = 40) (h1 : pw f fr r = some (b, r1, j)) (h2 : hd r1 = 48 + j) (h3 : j ≤ 9) (h4 : pw f (j + 1) r1.tail = some (o, r2, to)) (h5 : hd r2 = 41) :
    pw (f + 1) fr (c :: r) = some (.node j b o, r2.tail, to) := by
  simp only [pw]
  rw [if_neg (by omega), if_pos hc, h1]
  dsimp only
  rw [if_pos ⟨h2, h3⟩, h4]
  dsimp only
  rw [if_pos h5]
theorem no_succ {f fr to : Nat} {c : UInt8} {r : List UInt8} (hc : c.toNat = 40) (h : ∀ j, fr ≤ j → j < to → ¬ Succ f fr to r j) :
    match pw (f + 1) fr (c :: r) with
      | some (_, _, m) => m ≠ to
      | none => True := by
  cases hq : pw (f + 1) fr (c :: r) with
  | none => trivial
  | some q =>
    obtain ⟨t, r', m⟩ := q
    dsimp only
    rintro rfl
    simp only [pw] at hq
    rw [if_neg (by omega), if_pos hc] at hq
    split at hq
    · cases hq
    · rename_i b r1 g hb
      split at hq
      · rename_i hg
        split at hq
        · cases hq
        · rename_i o r2 m2 ho
          split at hq
          · rename_i h41
            injection hq with hq; injection hq with h1 h2; injection h2 with h2 h3
            subst h3
            have hb' := pw_le hb
            have ho' := pw_le ho
            exact h g hb' (by omega) ⟨b, r1, o, r2, hb, hg.1, hg.2, ho, h41⟩
          · cases hq
      · cases hq

set_option maxRecDepth 100000 in
theorem rp_other (zs : List Int) (A : Value) (f i fr to : Nat) (l : List UInt8) (c : UInt8) (r : List UInt8) (W : World) (hd : l.drop i = c :: r) (hft : fr < to) (hc : c.toNat ≠ 40) :
    Calls Try.prog 30 #[A, .string (tx l), .int .i64 (i : Int), .int .i64 (fr : Int), .int .i64 (to : Int)] W (RP zs (f + 1) i fr to l W) := by
  obtain ⟨h1, h2, h3, h4⟩ := tx_at hd
  have hsz : (tx l).size = l.length := tx_size l
  have hi : i < l.length := by rw [tx_size] at h1; exact h1
  have hg : decide (((tx l).size : Int) ≤ (i : Int)) = false := by simp; omega
  have hg' : decide ((tx l).size ≤ i) = false := by simp; omega
  obtain ⟨C, hC⟩ : ∃ C : Nat, C = c.toNat := ⟨_, rfl⟩
  have hcc : ∀ h' : i < (tx l).size, ((tx l)[i].toNat) = C := fun h' => by rw [h4]; exact hC.symm
  have HR : Hid (match pw (f + 1) fr (l.drop i) with
      | some (_, _, m) => m ≠ to
      | none => True) := by
    unfold Hid
    rw [hd]
    by_cases h46 : c.toNat = 46
    · have : pw (f + 1) fr (c :: r) = some (.leaf, r, fr) := by simp only [pw]; rw [if_pos h46]
      rw [this]; dsimp only; omega
    · have : pw (f + 1) fr (c :: r) = none := by simp only [pw]; rw [if_neg h46, if_neg hc]
      rw [this]; trivial
  have q1 : ((C : Int) != 40) = true := by rw [bne_iff_ne]; omega
  have q2 : ((fr : Int) == (to : Int)) = false := by rw [beq_eq_false_iff_ne]; omega
  clear hd h3 h4 hsz hi hC hc
  generalize tx l = S at *
  go_enter Try.func30, Try.ntmps30
  go_wp2
  refine bodyPost_ret (v := .tuple #[.int .i64 0, .int .i64 (-1)]) (by simp [results, Try.results30, go_sem]) rfl ?_
  refine ⟨_, _, rfl, ?_, 0, rfl⟩
  have h := HR.out
  revert h
  cases pw (f + 1) fr (l.drop i) with
  | none => intro _; rfl
  | some q =>
    obtain ⟨t, r', m⟩ := q
    dsimp only
    intro h
    rw [if_neg h]

theorem wrap_dig (k : Nat) (hk : k ≤ 9) : IntKind.u8.wrap (48 + (k : Int)) = 48 + (k : Int) := by rw [IntKind.wrap_u8]; omega

set_option maxHeartbeats 12800000 in
set_option maxRecDepth 100000 in
theorem rp_node (zs : List Int) (A : Value) (f i fr to : Nat) (l : List UInt8) (c : UInt8) (r : List UInt8) (W : World) (hA : Rd W A zs) (hz : ∀ z ∈ zs, 0 ≤ z ∧ z ≤ 50) (hl : l.length ≤ 1000) (hd : l.drop i = c :: r) (hft : fr < to) (hto : to ≤ zs.length) (h9 : zs.length ≤ 9) (hc : c.toNat = 40)
    (ih : ∀ (j a b : Nat) (W : World), Rd W A zs → l.length - j ≤ f → a ≤ b → b ≤ zs.length → Calls Try.prog 30 #[A, .string (tx l), .int .i64 (j : Int), .int .i64 (a : Int), .int .i64 (b : Int)] W (RP zs f j a b l W)) (hf : l.length - i ≤ f + 1) :
    Calls Try.prog 30 #[A, .string (tx l), .int .i64 (i : Int), .int .i64 (fr : Int), .int .i64 (to : Int)] W (RP zs (f + 1) i fr to l W) := by
  obtain ⟨h1, h2, h3, h4⟩ := tx_at hd
  have hsz : (tx l).size = l.length := tx_size l
  have hi : i < l.length := by rw [tx_size] at h1; exact h1
  have hg : decide (((tx l).size : Int) ≤ (i : Int)) = false := by simp; omega
  have hg' : decide ((tx l).size ≤ i) = false := by simp; omega
  have hcc : ∀ h' : i < (tx l).size, ((tx l)[i].toNat) = 40 := fun h' => by rw [h4]; exact hc
  have HAT : Hid (∀ (M : Nat) (d : UInt8) (q : List UInt8), l.drop M = d :: q → M < l.length ∧ q = l.drop (M + 1) ∧ ∀ h' : M < (tx l).size, ((tx l)[M].toNat) = d.toNat) := fun M d q hq => by
    obtain ⟨g1, -, g3, g4⟩ := tx_at hq
    rw [tx_size] at g1
    exact ⟨g1, g3, fun h' => by rw [g4]⟩
  have HSZ := Lib.hid hsz
  have HNS := Lib.hid (fun h => no_succ (f := f) (fr := fr) (to := to) (r := r) hc h)
  have HSP := Lib.hid (fun j (b o : Wy) (r1 r2 : List UInt8) h1 h2 h3 h4 h5 => succ_pw (f := f) (fr := fr) (to := to) (j := j) (r := r) (b := b) (o := o) (r1 := r1) (r2 := r2) hc h1 h2 h3 h4 h5)
  have HIH := Lib.hid ih
  have HRD := Lib.hid hA
  have HDR := Lib.hid h3
  have HD := Lib.hid hd
  have HPD := Lib.hid (fun n m t r' (j : Nat) (h : pw f n (l.drop j) = some (t, r', m)) => pw_drop h)
  have q1 : ((fr : Int) == (to : Int)) = false := by rw [beq_eq_false_iff_ne]; omega
  have hi1000 : i < 1000 := by omega
  have hfi : l.length - (i + 1) ≤ f := by omega
  clear hd h2 h3 h4 hsz hc ih hA hf
  obtain ⟨S, hS⟩ : ∃ S, S = tx l := ⟨_, rfl⟩
  rw [← hS] at hg hg' hcc HSZ HIH HAT h1 ⊢
  clear hS
  go_enter Try.func30, Try.ntmps30
  go_wp2_with fail
  go_loopg [12] (to - fr) (fun gh x wr => ∃ (k n : Nat), gh = to - k ∧ fr ≤ k ∧ k ≤ to ∧ x = .int .i64 (k : Int) ∧ Hid (∀ j, fr ≤ j → j < k → ¬ Succ f fr to r j) ∧ wr = W.drewN n)
  case atStart => exact ⟨fr, 0, rfl, Nat.le_refl _, by omega, rfl, fun j h1 h2 => by omega, rfl⟩
  case round =>
    obtain ⟨k, n, rfl, hk1, hk2, rfl, hno, rfl⟩ := hrel
    by_cases hlt : k < to
    · have T1 := Lib.hid (HIH.out (i + 1) fr k (W.drewN n) (HRD.out.drewN n) hfi hk1 (by omega))
      rw [show ((i + 1 : Nat) : Int) = (i : Int) + 1 by omega] at T1
      go_wp2_with fail
      with_reducible refine T1.out.mono ?_
      rintro e w1 ⟨a, mid, rfl, hp1, n1, rfl⟩
      rw [World.drewN_drewN]
      rw [← HDR.out] at hp1
      have hnx : ¬ Succ f fr to r k → Hid (∀ j, fr ≤ j → j < k + 1 → ¬ Succ f fr to r j) := fun h j h1 h2 => by
        by_cases e : j = k
        · rw [e]; exact h
        · exact hno.out j h1 (by omega)
      have hk9 : k ≤ 8 := by omega
      have hfail : (∀ b r1, pw f fr r ≠ some (b, r1, k)) → mid = -1 ∧ ¬ Succ f fr to r k := fun h => by
        refine ⟨?_, fun ⟨b, r1, o, r2, h1, _⟩ => h b r1 h1⟩
        cases hq : pw f fr r with
        | none => rw [hq] at hp1; exact hp1
        | some q =>
          obtain ⟨b, r1, g⟩ := q
          rw [hq] at hp1
          dsimp only at hp1
          rw [if_neg] at hp1
          · exact hp1
          · rintro rfl; exact h b r1 hq
      by_cases hok : ∃ b r1, pw f fr r = some (b, r1, k)
      · obtain ⟨b, r1, hq⟩ := hok
        rw [hq] at hp1
        dsimp only at hp1
        rw [if_pos rfl] at hp1
        obtain ⟨rfl, rfl⟩ := hp1
        have hdr := HPD.out fr k b r1 (i + 1) (by rw [← HDR.out]; exact hq)
        have hsu : Succ f fr to r k → hd r1 = 48 + k ∧ ∃ o r2, pw f (k + 1) r1.tail = some (o, r2, to) ∧ hd r2 = 41 := fun ⟨b', r1', o, r2, h1, h2, h3, h4, h5⟩ => by
          rw [hq] at h1
          injection h1 with h1
          injection h1 with h6 h7
          injection h7 with h7 h8
          subst h7
          exact ⟨h2, o, r2, h4, h5⟩
        have hr1l := (pw_in _ _ _ _ _ _ hq).2
        have hrl : r.length = l.length - (i + 1) := by rw [HDR.out]; simp
        obtain ⟨M, hM⟩ : ∃ M, M = l.length - r1.length := ⟨_, rfl⟩
        rw [← hM] at hdr ⊢
        have g0 : decide ((M : Int) < 0) = false := by simp
        cases r1 with
        | nil =>
          have HNX := hnx fun h => by have := (hsu h).1; simp [hd] at this; omega
          have g1 : decide ((S.size : Int) ≤ (M : Int)) = true := by rw [HSZ.out]; simp at hM ⊢; omega
          have g1' : decide (S.size ≤ M) = true := by rw [HSZ.out]; simp at hM ⊢; omega
          clear hfail hsu hdr hq hnx hno hM
          go_wp2
          go_roundg (to - (k + 1))
          case measure => omega
          case rel => exact ⟨k + 1, _, rfl, by omega, by omega, by go_num, HNX, rfl⟩
        | cons d q =>
          obtain ⟨hM1, hq1, hMd⟩ := HAT.out M d q hdr.symm
          have g1 : decide ((S.size : Int) ≤ (M : Int)) = false := by rw [HSZ.out]; simp; omega
          have g1' : decide (S.size ≤ M) = false := by rw [HSZ.out]; simp; omega
          have hMS : M < S.size := by rw [HSZ.out]; exact hM1
          obtain ⟨D, hD⟩ : ∃ D, D = d.toNat := ⟨_, rfl⟩
          rw [← hD] at hMd
          have hw := wrap_dig k (by omega)
          have hM1000 : M < 1000 := by omega
          by_cases hdk : D = 48 + k
          · have T2 := Lib.hid (fun n => HIH.out (M + 1) (k + 1) to (W.drewN n) (HRD.out.drewN n) (by rw [List.length_cons] at hM hr1l; omega) (by omega) hto)
            rw [show ((M + 1 : Nat) : Int) = (M : Int) + 1 by omega, show ((k + 1 : Nat) : Int) = (k : Int) + 1 by omega] at T2
            have e1 : ((D : Int) != 48 + (k : Int)) = false := by rw [hdk]; simp
            have HQ := Lib.hid hq
            have HSU := Lib.hid hsu
            have HNX1 := Lib.hid hnx
            have HQ1 := Lib.hid hq1
            have HHD : Hid (hd (d :: q) = 48 + k) := by unfold Hid; show d.toNat = _; rw [← hD]; exact hdk
            clear hfail hsu hq hnx hno hM hdr hq1 hD
            go_wp2_with fail
            with_reducible refine (T2.out _).mono ?_
            rintro e w2 ⟨a2, z2, rfl, hp2, n2, rfl⟩
            rw [World.drewN_drewN]
            rw [← HQ1.out] at hp2
            have hfail2 : (∀ o r2, pw f (k + 1) q ≠ some (o, r2, to)) → z2 = -1 ∧ ¬ Succ f fr to r k := fun h => by
              refine ⟨?_, fun hs => ?_⟩
              · cases hq2 : pw f (k + 1) q with
                | none => rw [hq2] at hp2; exact hp2
                | some q' =>
                  obtain ⟨o, r2, m⟩ := q'
                  rw [hq2] at hp2
                  dsimp only at hp2
                  rw [if_neg] at hp2
                  · exact hp2
                  · rintro rfl; exact h o r2 hq2
              · obtain ⟨-, o, r2, h4, -⟩ := HSU.out hs
                exact h o r2 h4
            by_cases hok2 : ∃ o r2, pw f (k + 1) q = some (o, r2, to)
            · obtain ⟨o, r2, hq2⟩ := hok2
              rw [hq2] at hp2
              dsimp only at hp2
              rw [if_pos rfl] at hp2
              obtain ⟨rfl, rfl⟩ := hp2
              have hdr2 := HPD.out (k + 1) to o r2 (M + 1) (by rw [← HQ1.out]; exact hq2)
              have hsu2 : Succ f fr to r k → hd r2 = 41 := fun hs => by
                obtain ⟨-, o', r2', h4, h5⟩ := HSU.out hs
                rw [List.tail_cons, hq2] at h4
                injection h4 with h4
                injection h4 with h6 h7
                injection h7 with h7 h8
                rw [h7]; exact h5
              have hr2l := (pw_in _ _ _ _ _ _ hq2).2
              obtain ⟨E, hE⟩ : ∃ E, E = l.length - r2.length := ⟨_, rfl⟩
              rw [← hE] at hdr2 ⊢
              have b0 : decide ((0 : Int) ≤ (E : Int)) = true := by simp
              have hE1000 : E ≤ 1000 := by omega
              cases r2 with
              | nil =>
                have HNX := HNX1.out fun h => by have := hsu2 h; simp [hd] at this
                have b1 : decide ((E : Int) < (S.size : Int)) = false := by rw [HSZ.out]; simp at hE ⊢; omega
                have b1' : decide (E < S.size) = false := by rw [HSZ.out]; simp at hE ⊢; omega
                clear hfail2 hsu2 hdr2 hq2 hE
                go_wp2
                go_roundg (to - (k + 1))
                case measure => omega
                case rel => exact ⟨k + 1, _, rfl, by omega, by omega, by go_num, HNX, rfl⟩
              | cons e q2 =>
                obtain ⟨hE1, hq3, hEd⟩ := HAT.out E e q2 hdr2.symm
                have b1 : decide ((E : Int) < (S.size : Int)) = true := by rw [HSZ.out]; simp; omega
                have b1' : decide (E < S.size) = true := by rw [HSZ.out]; simp; omega
                have hES : E < S.size := by rw [HSZ.out]; exact hE1
                obtain ⟨D2, hD2⟩ : ∃ D2, D2 = e.toNat := ⟨_, rfl⟩
                rw [← hD2] at hEd
                by_cases h41 : D2 = 41
                · have e2 : ((D2 : Int) == 41) = true := by rw [h41]; rfl
                  have HF := Lib.hid (HSP.out k b o (d :: q) (e :: q2) HQ.out HHD.out (by omega) hq2 (by show e.toNat = 41; omega))
                  have hszn : (Wy.node k b o).size = to - fr := by have := (pw_in _ _ _ _ _ _ HF.out).1.size; omega
                  have hs1 : (Wy.node k b o).size = 1 + b.size + o.size := rfl
                  have HLN : Hid ((((l.length - (e :: q2).tail.length : Nat)) : Int) = (E : Int) + 1) := by unfold Hid; rw [List.tail_cons]; have a1 : (d :: q).length = q.length + 1 := rfl; have a2 : (e :: q2).length = q2.length + 1 := rfl; omega
                  have HCO : Hid ((Wy.node k b o).cost zs = if b.size + o.size = 0 then 0 else zs.getD k 0 + max (b.cost zs) (o.cost zs)) := rfl
                  have hcb := cost_nonneg hz b
                  have hco := cost_nonneg hz o
                  clear hfail2 hsu2 hdr2 hq2 hE hq3 hD2
                  by_cases h1 : b.size + o.size = 0
                  · rw [if_pos h1] at HCO
                    have e3 : ((to : Int) - (fr : Int) == 1) = true := by rw [beq_iff_eq]; omega
                    go_wp2
                    refine bodyPost_ret (v := .tuple #[.int .i64 0, .int .i64 ((E : Int) + 1)]) (by simp [results, Try.results30, go_sem]) rfl ?_
                    refine ⟨_, _, rfl, ?_, _, rfl⟩
                    rw [HD.out, HF.out]
                    dsimp only
                    rw [if_pos rfl]
                    exact ⟨HCO.out.symm, HLN.out.symm⟩
                  · rw [if_neg h1] at HCO
                    have e3 : ((to : Int) - (fr : Int) == 1) = false := by rw [beq_eq_false_iff_ne]; omega
                    obtain ⟨aA, cA, eA, -, -, rA⟩ := HRD.out
                    subst eA
                    obtain ⟨ga, oa, zz, eB, hga, x1, HZ1⟩ := rd_at rA k (by omega)
                    subst eB
                    have hz1 : 0 ≤ zz ∧ zz ≤ 50 := by
                      rw [HZ1.out]; exact hz _ (by simp [List.getD, List.getElem?_eq_getElem (show k < zs.length by omega)])
                    rw [← HZ1.out] at HCO
                    have hk1' : (k : Int) < zs.length := by omega
                    clear rA HZ1
                    generalize b.cost zs = cb at *
                    generalize o.cost zs = co at *
                    have hbs : b.size ≤ 9 ∧ o.size ≤ 9 := by omega
                    go_wp2
                    all_goals first
                      | (have HC2 : Hid (Wy.cost zs (Wy.node k b o) = zz + co) := by unfold Hid; rw [HCO.out]; omega
                         refine bodyPost_ret (v := .tuple #[.int .i64 (zz + co), .int .i64 ((E : Int) + 1)]) (by simp [results, Try.results30, go_sem]) rfl ?_
                         refine ⟨_, _, rfl, ?_, _, rfl⟩
                         rw [HD.out, HF.out]
                         dsimp only
                         rw [if_pos rfl]
                         exact ⟨HC2.out.symm, HLN.out.symm⟩)
                      | (have HC2 : Hid (Wy.cost zs (Wy.node k b o) = zz + cb) := by unfold Hid; rw [HCO.out]; omega
                         refine bodyPost_ret (v := .tuple #[.int .i64 (zz + cb), .int .i64 ((E : Int) + 1)]) (by simp [results, Try.results30, go_sem]) rfl ?_
                         refine ⟨_, _, rfl, ?_, _, rfl⟩
                         rw [HD.out, HF.out]
                         dsimp only
                         rw [if_pos rfl]
                         exact ⟨HC2.out.symm, HLN.out.symm⟩)
                · have HNX := HNX1.out fun h => h41 (by have := hsu2 h; rw [hD2]; exact this)
                  have e2 : ((D2 : Int) == 41) = false := by rw [beq_eq_false_iff_ne]; omega
                  clear hfail2 hsu2 hdr2 hq2 hE hq3 hD2
                  go_wp2
                  go_roundg (to - (k + 1))
                  case measure => omega
                  case rel => exact ⟨k + 1, _, rfl, by omega, by omega, by go_num, HNX, rfl⟩
            · obtain ⟨rfl, hns⟩ := hfail2 fun o r2 h => hok2 ⟨o, r2, h⟩
              have HNX := HNX1.out hns
              clear hfail2 hp2 hok2 hns
              go_wp2
              go_roundg (to - (k + 1))
              case measure => omega
              case rel => exact ⟨k + 1, _, rfl, by omega, by omega, by go_num, HNX, rfl⟩
          · have HNX := hnx fun h => hdk (by have := (hsu h).1; rw [hD]; exact this)
            have e1 : ((D : Int) != 48 + (k : Int)) = true := by rw [bne_iff_ne]; omega
            clear hfail hsu hq hnx hno hM hdr hq1 hD
            go_wp2
            go_roundg (to - (k + 1))
            case measure => omega
            case rel => exact ⟨k + 1, _, rfl, by omega, by omega, by go_num, HNX, rfl⟩
      · obtain ⟨rfl, hns⟩ := hfail fun b r1 h => hok ⟨b, r1, h⟩
        have HNX := hnx hns
        clear hfail hp1 hok hns hnx hno
        go_wp2
        go_roundg (to - (k + 1))
        case measure => omega
        case rel => exact ⟨k + 1, _, rfl, by omega, by omega, by go_num, HNX, rfl⟩
    · have hk' : k = to := by omega
      subst hk'
      go_wp2
      refine bodyPost_ret (v := .tuple #[.int .i64 0, .int .i64 (-1)]) (by simp [results, Try.results30, go_sem]) rfl ?_
      refine ⟨_, _, rfl, ?_, n, rfl⟩
      rw [HD.out]
      have h := HNS.out hno.out
      revert h
      cases pw (f + 1) fr (c :: r) with
      | none => intro _; rfl
      | some q =>
        obtain ⟨t, r', m⟩ := q
        dsimp only
        intro h
        rw [if_neg h]

theorem rp_any (zs : List Int) (A : Value) (l : List UInt8) (hz : ∀ z ∈ zs, 0 ≤ z ∧ z ≤ 50) (hl : l.length ≤ 1000) (h9 : zs.length ≤ 9) : ∀ (f j a b : Nat) (W : World), Rd W A zs → l.length - j ≤ f → a ≤ b → b ≤ zs.length →
    Calls Try.prog 30 #[A, .string (tx l), .int .i64 (j : Int), .int .i64 (a : Int), .int .i64 (b : Int)] W (RP zs f j a b l W) := by
  intro f
  induction f with
  | zero => intro j a b W _ hj _ _; exact rp_end zs A 0 j a b l W (by omega)
  | succ f ih =>
    intro j a b W hA hj hab hb
    by_cases hjl : l.length ≤ j
    · exact rp_end zs A (f + 1) j a b l W hjl
    · obtain ⟨c, r, hd⟩ : ∃ c r, l.drop j = c :: r := by rw [List.drop_eq_getElem_cons (by omega : j < l.length)]; exact ⟨_, _, rfl⟩
      by_cases he : a = b
      · subst he; exact rp_leaf zs A f j a l c r W hl hd
      · by_cases hc : c.toNat = 40
        · exact rp_node zs A f j a b l c r W hA hz hl hd (by omega) hb h9 hc ih (by omega)
        · exact rp_other zs A f j a b l c r W hd (by omega) hc
end Go.Proofs.Ytcgpfdknadijlaa

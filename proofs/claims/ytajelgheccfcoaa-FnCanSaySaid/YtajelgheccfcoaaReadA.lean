/- The specification's reading: the other kinds. -/
import Derived.Test.YtajelgheccfcoaaRead
namespace Go.Proofs.Ytajelgheccfcoaa
open Go.RowKit

def ReadAt (p n k : Nat) (l : List UInt8) : Prop := ∀ (i : Nat) (W : World), l.length - i ≤ n →
    Calls Try.prog 58 #[.int .i64 (p : Int), .string (tx l), .int .i64 (i : Int), .int .i64 (k : Int)] W (ReadPost p n k i l W)

set_option maxRecDepth 100000 in
theorem read_no (p n k i : Nat) (l : List UInt8) (c : UInt8) (r : List UInt8) (W : World) (ih : ReadAt p n k l) (hn : l.length - i ≤ n + 1) (hl : l.length < 4611686018427387904) (hd : l.drop i = c :: r) (hc : c.toNat = 33) :
    Calls Try.prog 58 #[.int .i64 (p : Int), .string (tx l), .int .i64 (i : Int), .int .i64 (k : Int)] W (ReadPost p (n + 1) k i l W) := by
  obtain ⟨h1, h2, h3, h4⟩ := tx_at hd
  have hi : i < l.length := by rw [tx_size] at h1; exact h1
  have HR : Hid (rd p (n + 1) (l.drop i) = ((rd p n (l.drop (i + 1))).1.map .no, (rd p n (l.drop (i + 1))).2)) := by
    unfold Hid
    rw [hd, ← h3]
    simp only [rd]
    rw [if_neg (by omega), if_pos hc]
  have IH : Hid (∀ W, Calls Try.prog 58 #[.int .i64 (p : Int), .string (tx l), .int .i64 ((i : Int) + 1), .int .i64 (k : Int)] W (ReadPost p n k (i + 1) l W)) := fun W => ih (i + 1) W (by omega)
  have hg : decide (((tx l).size : Int) ≤ (i : Int)) = false := by simp; omega
  have hg' : decide ((tx l).size ≤ i) = false := by simp; omega
  have hcc : ∀ h' : i < (tx l).size, ((tx l)[i].toNat) = 33 := fun h' => by rw [h4]; exact hc
  have hi62 : i + 1 < 4611686018427387905 := by omega
  clear hc hd h3 h4 ih hn hi hl
  generalize tx l = S at *
  go_enter Try.func58, Try.ntmps58
  go_wp2_with fail
  with_reducible refine (IH.out _).mono ?_
  rintro e W1 ⟨b, z, rfl, hb, m, rfl⟩
  have HB := Lib.hid hb
  clear hb
  go_wp2
  refine bodyPost_ret (v := .tuple #[.bool (!b), .int .i64 z]) (by simp [results, Try.results58, go_sem]) rfl ?_
  refine ⟨_, _, rfl, ?_, m, rfl⟩
  rw [HR.out]
  have := HB.out
  cases ho : (rd p n (l.drop (i + 1))).1 with
  | none => rw [ho] at this; exact this
  | some a => rw [ho] at this; exact ⟨by rw [this.1]; rfl, this.2⟩

set_option maxRecDepth 100000 in
theorem read_else (p n k i : Nat) (l : List UInt8) (c : UInt8) (r : List UInt8) (W : World) (hp : p ≤ 5) (hd : l.drop i = c :: r) (hc : ¬ (48 ≤ c.toNat ∧ c.toNat ≤ 52)) (h33 : ¬ c.toNat = 33) (h35 : ¬ c.toNat = 35) (h40 : ¬ c.toNat = 40) :
    Calls Try.prog 58 #[.int .i64 (p : Int), .string (tx l), .int .i64 (i : Int), .int .i64 (k : Int)] W (ReadPost p (n + 1) k i l W) := by
  obtain ⟨h1, h2, h3, h4⟩ := tx_at hd
  have hi : i < l.length := by rw [tx_size] at h1; exact h1
  have HR : Hid ((rd p (n + 1) (l.drop i)).1 = none) := by
    unfold Hid
    rw [hd]
    simp only [rd]
    rw [if_neg (by omega), if_neg h33, if_neg h35, if_neg h40]
  have hg : decide (((tx l).size : Int) ≤ (i : Int)) = false := by simp; omega
  have hg' : decide ((tx l).size ≤ i) = false := by simp; omega
  obtain ⟨C, hC⟩ : ∃ C : Nat, C = c.toNat := ⟨_, rfl⟩
  rw [← hC] at hc h33 h35 h40
  have hcc : ∀ h' : i < (tx l).size, ((tx l)[i].toNat) = C := fun h' => by rw [h4]; exact hC.symm
  have e0 : ((C : Int) == 48) = false := by simp; omega
  have e1 : ((C : Int) == 49) = false := by simp; omega
  have e2 : ((C : Int) == 50) = false := by simp; omega
  have e3 : ((C : Int) == 51) = false := by simp; omega
  have e4 : ((C : Int) == 52) = false := by simp; omega
  have e5 : ((C : Int) == 33) = false := by simp; omega
  have e6 : ((C : Int) == 35) = false := by simp; omega
  have e7 : ((C : Int) == 40) = false := by simp; omega
  clear hc hd h3 h4 hi h33 h35 h40 hC
  generalize tx l = S at *
  go_enter Try.func58, Try.ntmps58
  go_wp2
  refine bodyPost_ret (v := .tuple #[.bool false, .int .i64 (-1)]) (by simp [results, Try.results58, go_sem]) rfl ?_
  exact ⟨_, _, rfl, by rw [HR.out], 0, rfl⟩

theorem hd_drop {l : List UInt8} {M : Nat} (h : M < l.length) : ∃ (c : UInt8) (r : List UInt8), l.drop M = c :: r ∧ hd (l.drop M) = c.toNat := by
  rw [List.drop_eq_getElem_cons h]; exact ⟨_, _, rfl, rfl⟩

set_option maxHeartbeats 6400000 in
set_option maxRecDepth 100000 in
theorem read_two (p n k i : Nat) (l : List UInt8) (c : UInt8) (r : List UInt8) (W : World) (ih : ReadAt p n k l) (hn : l.length - i ≤ n + 1) (hl : l.length < 4611686018427387904) (hd : l.drop i = c :: r) (hc : c.toNat = 40) :
    Calls Try.prog 58 #[.int .i64 (p : Int), .string (tx l), .int .i64 (i : Int), .int .i64 (k : Int)] W (ReadPost p (n + 1) k i l W) := by
  obtain ⟨h1, h2, h3, h4⟩ := tx_at hd
  have hsz : (tx l).size = l.length := tx_size l
  have hi : i < l.length := by rw [tx_size] at h1; exact h1
  have sf := rd_suffix p n (l.drop (i + 1))
  have sl : (l.drop (i + 1)) <:+ l := List.drop_suffix _ _
  obtain ⟨x, hx⟩ : ∃ x, x = rd p n (l.drop (i + 1)) := ⟨_, rfl⟩
  obtain ⟨M, hM⟩ : ∃ M, M = l.length - x.2.length := ⟨_, rfl⟩
  have xd : x.2 = l.drop M := by rw [hM]; exact List.suffix_iff_eq_drop.1 (by rw [hx]; exact sf.trans sl)
  have hMi : i + 1 ≤ M := by
    have := sf.length_le; rw [← hx] at this; simp at this; omega
  have hML : M ≤ l.length := by omega
  obtain ⟨y, hy⟩ : ∃ y, y = rd p n (l.drop (M + 1)) := ⟨_, rfl⟩
  have sf2 := rd_suffix p n (l.drop (M + 1))
  have sl2 : (l.drop (M + 1)) <:+ l := List.drop_suffix _ _
  obtain ⟨E, hE⟩ : ∃ E, E = l.length - y.2.length := ⟨_, rfl⟩
  have yd : y.2 = l.drop E := by rw [hE]; exact List.suffix_iff_eq_drop.1 (by rw [hy]; exact sf2.trans sl2)
  have hEL : E ≤ l.length := by omega
  have HR : Hid (rd p (n + 1) (l.drop i) = (match x.1, y.1 with
      | some a, some b => (if Go.Proofs.Ytajelgheccfcoaa.hd y.2 = 41 then joinS (Go.Proofs.Ytajelgheccfcoaa.hd x.2) a b else none, y.2.tail)
      | _, _ => (none, y.2))) := by
    unfold Hid
    rw [hd, h3, hy, show l.drop (M + 1) = x.2.tail by rw [xd, List.tail_drop], hx]
    simp only [rd, hc, joinS]
    rfl
  have I1 : Hid (∀ W, Calls Try.prog 58 #[.int .i64 (p : Int), .string (tx l), .int .i64 ((i : Int) + 1), .int .i64 (k : Int)] W fun e w' => ∃ b z, e = .returned (.tuple #[.bool b, .int .i64 z]) ∧ (match x.1 with
    | some a => b = a.val k ∧ z = ((M : Nat) : Int)
    | none => z = -1) ∧ ∃ m, w' = W.drewN m) := fun W => by rw [hM, hx]; exact ih (i + 1) W (by omega)
  have I2 : Hid (∀ W, Calls Try.prog 58 #[.int .i64 (p : Int), .string (tx l), .int .i64 ((M : Int) + 1), .int .i64 (k : Int)] W fun e w' => ∃ b z, e = .returned (.tuple #[.bool b, .int .i64 z]) ∧ (match y.1 with
    | some a => b = a.val k ∧ z = ((E : Nat) : Int)
    | none => z = -1) ∧ ∃ m, w' = W.drewN m) := fun W => by rw [hE, hy]; exact ih (M + 1) W (by omega)
  have hg : decide (((tx l).size : Int) ≤ (i : Int)) = false := by simp; omega
  have hg' : decide ((tx l).size ≤ i) = false := by simp; omega
  have hcc : ∀ h' : i < (tx l).size, ((tx l)[i].toNat) = 40 := fun h' => by rw [h4]; exact hc
  have hi62 : i + 1 < 4611686018427387905 := by omega
  have hM62 : M + 1 < 4611686018427387905 := by omega
  have hE62 : E + 1 < 4611686018427387905 := by omega
  obtain ⟨o1, l1⟩ := x
  obtain ⟨o2, l2⟩ := y
  have xd' : l1 = l.drop M := xd
  have yd' : l2 = l.drop E := yd
  clear hc hd h3 h4 ih hn hi hl hx hy sf sl sf2 sl2 xd yd hM hE
  go_enter Try.func58, Try.ntmps58
  go_wp2_with fail
  with_reducible refine (I1.out _).mono ?_
  rintro e W1 ⟨b1, z1, rfl, hb1, m1, rfl⟩
  cases o1 with
  | none =>
    obtain rfl : z1 = -1 := hb1
    go_wp2
    refine bodyPost_ret (v := .tuple #[.bool false, .int .i64 (-1)]) (by simp [results, Try.results58, go_sem]) rfl ?_
    exact ⟨_, _, rfl, by rw [HR.out], m1, rfl⟩
  | some a =>
    obtain ⟨hba, rfl⟩ : b1 = a.val k ∧ z1 = ((M : Nat) : Int) := hb1
    have HBA := Lib.hid hba
    clear hba
    by_cases hMl : M < l.length
    · have g1 : decide (((tx l).size : Int) ≤ (M : Int)) = false := by rw [hsz]; simp; omega
      have g1' : decide ((tx l).size ≤ M) = false := by rw [hsz]; simp; omega
      go_wp2_with fail
      with_reducible refine (I2.out _).mono ?_
      rintro e W2 ⟨b2, z2, rfl, hb2, m2, rfl⟩
      cases o2 with
      | none =>
        obtain rfl : z2 = -1 := hb2
        go_wp2
        refine bodyPost_ret (v := .tuple #[.bool false, .int .i64 (-1)]) (by simp [results, Try.results58, go_sem]) rfl ?_
        exact ⟨_, _, rfl, by rw [HR.out], _, rfl⟩
      | some b =>
        obtain ⟨hbb, rfl⟩ : b2 = b.val k ∧ z2 = ((E : Nat) : Int) := hb2
        have HBB := Lib.hid hbb
        clear hbb
        have HX := Lib.hid xd'
        have HY := Lib.hid yd'
        by_cases hEl : E < l.length
        · have g2 : decide (((tx l).size : Int) ≤ (E : Int)) = false := by rw [hsz]; simp; omega
          have g2' : decide ((tx l).size ≤ E) = false := by rw [hsz]; simp; omega
          obtain ⟨ce, re, hce, hhe⟩ := hd_drop hEl
          obtain ⟨cm, rm, hcm, hhm⟩ := hd_drop hMl
          obtain ⟨t1, t2, -, t4⟩ := tx_at hce
          obtain ⟨u1, u2, -, u4⟩ := tx_at hcm
          obtain ⟨D, hD⟩ : ∃ D : Nat, D = ce.toNat := ⟨_, rfl⟩
          obtain ⟨G, hG⟩ : ∃ G : Nat, G = cm.toNat := ⟨_, rfl⟩
          have t5 : ∀ h' : E < (tx l).size, ((tx l)[E].toNat) = D := fun h' => by rw [t4]; exact hD.symm
          have u5 : ∀ h' : M < (tx l).size, ((tx l)[M].toNat) = G := fun h' => by rw [u4]; exact hG.symm
          have HD : Hid (Go.Proofs.Ytajelgheccfcoaa.hd l2 = D) := by unfold Hid; rw [yd', hhe, hD]
          have HG : Hid (Go.Proofs.Ytajelgheccfcoaa.hd l1 = G) := by unfold Hid; rw [xd', hhm, hG]
          have HLEN : Hid (l.length - l2.tail.length = E + 1) := by unfold Hid; rw [yd']; simp; omega
          clear t4 u4 hD hG hhe hhm hce hcm hMl hML hsz hEL xd' yd' hEl
          generalize tx l = S at *
          by_cases h41 : D = 41
          · subst h41
            by_cases hG1 : G = 38
            · have HJ : Hid (joinS (Go.Proofs.Ytajelgheccfcoaa.hd l1) a b = some (.both a b)) := by unfold Hid; rw [HG.out, hG1]; rfl
              subst hG1
              rcases b1 with _ | _ <;> rcases b2 with _ | _
              all_goals
                go_wp2
                refine bodyPost_ret (v := .tuple #[.bool _, .int .i64 ((E : Int) + 1)]) (by simp [results, Try.results58, go_sem] <;> rfl) rfl ?_
                refine ⟨_, _, rfl, ?_, _, rfl⟩
                rw [HR.out]
                show match (if Go.Proofs.Ytajelgheccfcoaa.hd l2 = 41 then joinS (Go.Proofs.Ytajelgheccfcoaa.hd l1) a b else none) with | some a => _ | none => _
                rw [if_pos HD.out, HJ.out]
                refine ⟨?_, ?_⟩
                · show _ = (a.val k && b.val k)
                  rw [← HBA.out, ← HBB.out]; rfl
                · show ((E : Int) + 1) = ((l.length - l2.tail.length : Nat) : Int)
                  rw [HLEN.out]; rfl
            by_cases hG2 : G = 124
            · have HJ : Hid (joinS (Go.Proofs.Ytajelgheccfcoaa.hd l1) a b = some (.some a b)) := by unfold Hid; rw [HG.out, hG2]; rfl
              subst hG2
              rcases b1 with _ | _ <;> rcases b2 with _ | _
              all_goals
                go_wp2
                refine bodyPost_ret (v := .tuple #[.bool _, .int .i64 ((E : Int) + 1)]) (by simp [results, Try.results58, go_sem] <;> rfl) rfl ?_
                refine ⟨_, _, rfl, ?_, _, rfl⟩
                rw [HR.out]
                show match (if Go.Proofs.Ytajelgheccfcoaa.hd l2 = 41 then joinS (Go.Proofs.Ytajelgheccfcoaa.hd l1) a b else none) with | some a => _ | none => _
                rw [if_pos HD.out, HJ.out]
                refine ⟨?_, ?_⟩
                · show _ = (a.val k || b.val k)
                  rw [← HBA.out, ← HBB.out]; rfl
                · show ((E : Int) + 1) = ((l.length - l2.tail.length : Nat) : Int)
                  rw [HLEN.out]; rfl
            by_cases hG3 : G = 61
            · have HJ : Hid (joinS (Go.Proofs.Ytajelgheccfcoaa.hd l1) a b = some (.same a b)) := by unfold Hid; rw [HG.out, hG3]; rfl
              subst hG3
              rcases b1 with _ | _ <;> rcases b2 with _ | _
              all_goals
                go_wp2
                refine bodyPost_ret (v := .tuple #[.bool _, .int .i64 ((E : Int) + 1)]) (by simp [results, Try.results58, go_sem] <;> rfl) rfl ?_
                refine ⟨_, _, rfl, ?_, _, rfl⟩
                rw [HR.out]
                show match (if Go.Proofs.Ytajelgheccfcoaa.hd l2 = 41 then joinS (Go.Proofs.Ytajelgheccfcoaa.hd l1) a b else none) with | some a => _ | none => _
                rw [if_pos HD.out, HJ.out]
                refine ⟨?_, ?_⟩
                · show _ = (a.val k == b.val k)
                  rw [← HBA.out, ← HBB.out]; rfl
                · show ((E : Int) + 1) = ((l.length - l2.tail.length : Nat) : Int)
                  rw [HLEN.out]; rfl
            have HR2 : Hid ((rd p (n + 1) (l.drop i)).1 = none) := by
              unfold Hid; rw [HR.out]
              show (if Go.Proofs.Ytajelgheccfcoaa.hd l2 = 41 then joinS (Go.Proofs.Ytajelgheccfcoaa.hd l1) a b else none) = none
              rw [if_pos HD.out, HG.out]; unfold joinS; rw [if_neg hG1, if_neg hG2, if_neg hG3]
            have e1 : ((G : Int) == 38) = false := by simp; omega
            have e2 : ((G : Int) == 124) = false := by simp; omega
            have e3 : ((G : Int) == 61) = false := by simp; omega
            clear hG1 hG2 hG3
            go_wp2
            refine bodyPost_ret (v := .tuple #[.bool false, .int .i64 (-1)]) (by simp [results, Try.results58, go_sem]) rfl ?_
            exact ⟨_, _, rfl, by rw [HR2.out], _, rfl⟩
          · have HR2 : Hid ((rd p (n + 1) (l.drop i)).1 = none) := by
              unfold Hid; rw [HR.out]
              show (if Go.Proofs.Ytajelgheccfcoaa.hd l2 = 41 then joinS (Go.Proofs.Ytajelgheccfcoaa.hd l1) a b else none) = none
              rw [HD.out, if_neg h41]
            have e1 : ((D : Int) == 41) = false := by simp; omega
            have e1' : ((D : Int) != 41) = true := by simp; omega
            clear h41
            go_wp2
            refine bodyPost_ret (v := .tuple #[.bool false, .int .i64 (-1)]) (by simp [results, Try.results58, go_sem]) rfl ?_
            exact ⟨_, _, rfl, by rw [HR2.out], _, rfl⟩
        · have g2 : decide (((tx l).size : Int) ≤ (E : Int)) = true := by rw [hsz]; simp; omega
          have g2' : decide ((tx l).size ≤ E) = true := by rw [hsz]; simp; omega
          have HR2 : Hid ((rd p (n + 1) (l.drop i)).1 = none) := by
            unfold Hid; rw [HR.out]
            show (if Go.Proofs.Ytajelgheccfcoaa.hd l2 = 41 then _ else none) = none
            rw [yd', List.drop_eq_nil_iff.2 (by omega)]
            rfl
          clear hMl hML hsz hEL xd' yd' hEl
          generalize tx l = S at *
          go_wp2
          refine bodyPost_ret (v := .tuple #[.bool false, .int .i64 (-1)]) (by simp [results, Try.results58, go_sem]) rfl ?_
          exact ⟨_, _, rfl, by rw [HR2.out], _, rfl⟩
    · have g1 : decide (((tx l).size : Int) ≤ (M : Int)) = true := by rw [hsz]; simp; omega
      have g1' : decide ((tx l).size ≤ M) = true := by rw [hsz]; simp; omega
      have HR2 : Hid ((rd p (n + 1) (l.drop i)).1 = none) := by
        unfold Hid; rw [HR.out]
        cases o2 with
        | none => rfl
        | some b =>
          show (if _ then joinS (Go.Proofs.Ytajelgheccfcoaa.hd l1) a b else none) = none
          rw [xd', List.drop_eq_nil_iff.2 (by omega)]
          split <;> rfl
      clear hMl hML hsz hEL xd' yd' HBA
      generalize tx l = S at *
      go_wp2
      refine bodyPost_ret (v := .tuple #[.bool false, .int .i64 (-1)]) (by simp [results, Try.results58, go_sem]) rfl ?_
      exact ⟨_, _, rfl, by rw [HR2.out], m1, rfl⟩
end Go.Proofs.Ytajelgheccfcoaa

/- The walk of the law on AfterVisit. -/
import Derived.Test.YtnpfjpihcdlmhaaDrawAv
import Derived.Test.YtnpfjpihcdlmhaaLRoomNewF
namespace Go.Proofs.Ytnpfjpihcdlmhaa
open Go.RowKit

theorem again (sw cnt : Int) (zs : List Int) (P : Nat) (hP : P < zs.length) (hs : 0 ≤ sw ∧ sw ≤ 1) :
    vSw (vSw sw zs P) (vDone sw zs P) P = vSw sw zs P ∧ vCnt (vSw sw zs P) (vCnt sw cnt P) P = vCnt sw cnt P ∧ vDone (vSw sw zs P) (vDone sw zs P) P = vDone sw zs P ∧ cnt ≤ vCnt sw cnt P := by
  by_cases h0 : P = 0
  · subst h0
    simp [vSw, vCnt, vDone, vHit]; omega
  · cases hv : vHit sw zs P
    · have e1 : vSw sw zs P = sw := by unfold vSw; rw [if_neg h0, if_neg (by simp [hv])]
      have e2 : vCnt sw cnt P = cnt := by unfold vCnt; rw [if_neg h0]
      have e3 : vDone sw zs P = zs := by unfold vDone; rw [if_neg (by simp [hv])]
      rw [e1, e2, e3]; exact ⟨e1, e2, e3, Int.le_refl _⟩
    · have e1 : vSw sw zs P = 1 := by unfold vSw; rw [if_neg h0, if_pos hv]
      have e2 : vCnt sw cnt P = cnt := by unfold vCnt; rw [if_neg h0]
      have hv2 : vHit 1 (vDone sw zs P) P = false := by simp [vHit]
      rw [e1, e2]
      refine ⟨by unfold vSw; rw [if_neg h0, if_neg (by simp [hv2])], by unfold vCnt; rw [if_neg h0], ?_, Int.le_refl _⟩
      show (if vHit 1 (vDone sw zs P) P = true then (vDone sw zs P).set P 1 else vDone sw zs P) = vDone sw zs P
      rw [hv2]; rfl

theorem av_again {sw cnt : Int} {zs : List Int} {q : Int} (h : avB sw cnt zs q = true) :
    roomB (avSw sw cnt zs q) (avCnt sw cnt zs q) (avDone sw cnt zs q) = true ∧ cnt ≤ avCnt sw cnt zs q ∧ avCnt sw cnt zs q ≤ 1000 ∧
    avSw (avSw sw cnt zs q) (avCnt sw cnt zs q) (avDone sw cnt zs q) q = avSw sw cnt zs q ∧ avCnt (avSw sw cnt zs q) (avCnt sw cnt zs q) (avDone sw cnt zs q) q = avCnt sw cnt zs q ∧ avDone (avSw sw cnt zs q) (avCnt sw cnt zs q) (avDone sw cnt zs q) q = avDone sw cnt zs q := by
  have e1 : avSw sw cnt zs q = vSw sw zs q.toNat := by unfold avSw; rw [if_pos h]
  have e2 : avCnt sw cnt zs q = vCnt sw cnt q.toNat := by unfold avCnt; rw [if_pos h]
  have e3 : avDone sw cnt zs q = vDone sw zs q.toNat := by unfold avDone; rw [if_pos h]
  simp only [avB, inB, Bool.and_eq_true, decide_eq_true_eq] at h
  obtain ⟨hr, hq0, hq1⟩ := h
  have hP : q.toNat < zs.length := by omega
  have hrb := roomB_visit hr hP
  obtain ⟨a1, a2, a3, a4⟩ := again sw cnt zs q.toNat hP (roomB_cnt hr).1
  rw [e1, e2, e3]
  have hab : avB (vSw sw zs q.toNat) (vCnt sw cnt q.toNat) (vDone sw zs q.toNat) q = true := by
    simp only [avB, inB, Bool.and_eq_true, decide_eq_true_eq]
    rw [length_vDone]
    exact ⟨hrb, hq0, hq1⟩
  refine ⟨hrb, a4, (roomB_cnt hrb).2.2, ?_, ?_, ?_⟩
  · unfold avSw; rw [if_pos hab]; exact a1
  · unfold avCnt; rw [if_pos hab]; exact a2
  · unfold avDone; rw [if_pos hab]; exact a3

set_option maxHeartbeats 1600000 in
set_option maxRecDepth 100000 in
theorem walk_FnAfterVisit (a0 : Option Addr) (len0 cap0 : Nat) (z0 : List Int) (w : World) (w0 : IsRowB .u8 w a0 len0 cap0 z0) :
    Calls Try.prog 18 #[.slice a0 len0 cap0] w fun e w' => e = .returned (.bool true) ∧ Below w.heap.size w w' := by
  by_cases hlen : 1048576 < len0
  · go_enter Try.func18, Try.ntmps18
    go_wp2
    go_ret
    exact ⟨rfl, Below.refl _ _⟩
  · go_enter Try.func18, Try.ntmps18
    go_wp2_with fail
    refine (DrawAfterVisit_any _ _ _ _ _ w0).mono ?_
    rintro e w1 ⟨⟨sw, cnt, A, c, L, q, rfl, hcn, hL, hq, ho⟩, b1⟩
    have s1 := b1.size
    obtain ⟨w2, hw2⟩ : ∃ w2 : World, w2 = w1.alloc (.cells #[.int .i64 sw, .int .i64 cnt, .slice A L.length c] 30) := ⟨_, rfl⟩
    have ba := (Below.refl w1.heap.size w1).alloc (Nat.le_refl _) (.cells #[.int .i64 sw, .int .i64 cnt, .slice A L.length c] 30)
    have g2 := heap_alloc_new w1 (.cells #[.int .i64 sw, .int .i64 cnt, .slice A L.length c] 30)
    rw [← hw2] at ba g2
    have s2 : w2.heap.size = w1.heap.size + 1 := by rw [hw2]; simp
    have hR := ho.rd.below ba
    have bb := b1.trans (ba.mono (by omega))
    have HW2 := Lib.hid hw2
    clear hw2 ba ho b1 w0
    obtain ⟨ab, hab⟩ : ∃ x, x = avB sw cnt L q := ⟨_, rfl⟩
    obtain ⟨asw, hsw⟩ : ∃ x, x = avSw sw cnt L q := ⟨_, rfl⟩
    obtain ⟨acnt, hcnt⟩ : ∃ x, x = avCnt sw cnt L q := ⟨_, rfl⟩
    obtain ⟨D, hD⟩ : ∃ x, x = avDone sw cnt L q := ⟨_, rfl⟩
    have H1 : Hid (∀ (W : World) (u : Value), Rd W u L → Calls Try.prog 42 #[.agg #[.int .i64 sw, .int .i64 cnt, u], .int .i64 q] W fun e w' => (∃ A n c, e = .returned (.agg #[.int .i64 asw, .int .i64 acnt, .slice A n c]) ∧ Own w' W.heap.size w'.heap.size (.slice A n c) D) ∧ Below W.heap.size W w') := fun W u h => by
      have := specAfterVisit_any sw cnt u L q W h (by omega) (by omega)
      rw [← hsw, ← hcnt, ← hD] at this; exact this
    have H2 : Hid (∀ (W : World) (u : Value), Rd W u L → Calls Try.prog 43 #[.agg #[.int .i64 sw, .int .i64 cnt, u], .int .i64 q] W fun e w' => (∃ A n c, e = .returned (.agg #[.int .i64 asw, .int .i64 acnt, .slice A n c]) ∧ Own w' W.heap.size w'.heap.size (.slice A n c) D) ∧ Below W.heap.size W w') := fun W u h => by
      have := implAfterVisit_any sw cnt u L q W h
      rw [← hsw, ← hcnt, ← hD] at this; exact this
    have HAV : Hid ((ab = true ∧ roomB sw cnt L = true ∧ 0 ≤ q ∧ q < (L.length : Int) ∧ roomB asw acnt D = true ∧ cnt ≤ acnt ∧ acnt ≤ 1000 ∧ ∀ (W : World) (u : Value), Rd W u D → Calls Try.prog 43 #[.agg #[.int .i64 asw, .int .i64 acnt, u], .int .i64 q] W fun e w' => (∃ A n c, e = .returned (.agg #[.int .i64 asw, .int .i64 acnt, .slice A n c]) ∧ Own w' W.heap.size w'.heap.size (.slice A n c) D) ∧ Below W.heap.size W w') ∨
        (asw = 0 ∧ acnt = 0 ∧ D = [] ∧ (roomB sw cnt L = false ∨ q < 0 ∨ (L.length : Int) ≤ q))) := by
      rcases Bool.eq_false_or_eq_true (avB sw cnt L q) with hv | hv
      · left
        obtain ⟨x1, x2, x3, x4, x5, x6⟩ := av_again hv
        rw [← hsw, ← hcnt, ← hD] at x1 x4 x5 x6
        rw [← hcnt] at x2 x3
        have hv2 := hv
        simp only [avB, inB, Bool.and_eq_true, decide_eq_true_eq] at hv2
        refine ⟨hab.trans hv, hv2.1, hv2.2.1, by omega, x1, x2, x3, fun W u h => ?_⟩
        have := implAfterVisit_any asw acnt u D q W h
        rw [x4, x5, x6] at this; exact this
      · right
        refine ⟨by rw [hsw]; unfold avSw; rw [hv]; rfl, by rw [hcnt]; unfold avCnt; rw [hv]; rfl, by rw [hD]; unfold avDone; rw [hv]; rfl, ?_⟩
        rcases Bool.eq_false_or_eq_true (roomB sw cnt L) with hr | hr
        · right
          simp only [avB, inB, hr, Bool.true_and, Bool.and_eq_false_iff, decide_eq_false_iff_not] at hv
          omega
        · exact .inl hr
    clear hsw hcnt hD hab
    go_wp2_with fail
    rw [← HW2.out]
    refine (H2.out _ _ hR).mono ?_
    rintro e w3 ⟨⟨A3, n3, c3, rfl, o3⟩, b3⟩
    have s3 := b3.size
    obtain ⟨w4, hw4⟩ : ∃ w4 : World, w4 = w3.alloc (.cells #[.int .i64 asw, .int .i64 acnt, .slice A3 n3 c3] 30) := ⟨_, rfl⟩
    have ba := (Below.refl w3.heap.size w3).alloc (Nat.le_refl _) (.cells #[.int .i64 asw, .int .i64 acnt, .slice A3 n3 c3] 30)
    have g4 := heap_alloc_new w3 (.cells #[.int .i64 asw, .int .i64 acnt, .slice A3 n3 c3] 30)
    rw [← hw4] at ba g4
    have s4 : w4.heap.size = w3.heap.size + 1 := by rw [hw4]; simp
    have bb4 := (bb.trans (b3.mono (by omega))).trans (ba.mono (by omega))
    have hR4 := (hR.below b3).below ba
    have hD4 := o3.rd.below ba
    have gr4 := (ba.block _ (by omega)).trans ((b3.block _ (by omega)).trans g2)
    obtain ⟨⟨k0, k1, k2⟩, -, -, -, kz⟩ := blk3 g4
    obtain ⟨⟨j0, j1, j2⟩, -, -, -, jz⟩ := blk3 gr4
    have HW4 := Lib.hid hw4; have HG := Lib.hid g4; have HR := Lib.hid gr4; have HB := Lib.hid bb4
    clear hw4 g4 gr4 bb4 ba b3 o3 hR bb g2 HW2
    go_wp2_with fail
    rw [← HW4.out]
    go_region_held3 (fun wx => wx.cell? ⟨w3.heap.size, 0, none⟩ = some (.int .i64 asw) ∧ wx.cell? ⟨w3.heap.size, 1, none⟩ = some (.int .i64 acnt) ∧ wx.cell? ⟨w3.heap.size, 2, none⟩ = some (.slice A3 n3 c3) ∧ wx.cell? ⟨w1.heap.size, 0, none⟩ = some (.int .i64 sw) ∧ wx.cell? ⟨w1.heap.size, 1, none⟩ = some (.int .i64 cnt) ∧ wx.cell? ⟨w1.heap.size, 2, none⟩ = some (.slice A L.length c))
      (first | exact ⟨(b8.cell qz).trans q0, (b8.cell qz).trans q1, (b8.cell qz).trans q2, (b8.cell pz).trans p0, (b8.cell pz).trans p1, (b8.cell pz).trans p2⟩ | exact ⟨q0, q1, q2, p0, p1, p2⟩ | go_keep)
      (first | (go_at_call 42; refine (H1.out _ _ (by exact hR4)).mono ?_; rintro e w7 ⟨⟨A7, n7, c7, rfl, o7⟩, b7⟩; obtain ⟨⟨q0, q1, q2⟩, -, -, -, qz⟩ := blk3 ((b7.block _ (by exact kz)).trans (by exact HG.out)); obtain ⟨⟨p0, p1, p2⟩, -, -, -, pz⟩ := blk3 ((b7.block _ (by exact jz)).trans (by exact HR.out))) | (go_at_call 47; refine (sameRoom_true _ _ _ _ D _ (Rd.below (by exact hD4) b7) o7.rd).mono ?_; rintro e w8 ⟨rfl, b8⟩))
    have hR8 : Rd w8 (.slice A L.length c) L := Rd.below (Rd.below (by exact hR4) b7) b8
    have hD8 : Rd w8 (.slice A3 n3 c3) D := Rd.below (Rd.below (by exact hD4) b7) b8
    have gx8 := (b8.block _ qz).trans ((b7.block _ (by exact kz)).trans HG.out)
    have gr8 := (b8.block _ pz).trans ((b7.block _ (by exact jz)).trans HR.out)
    have hbf := ((HB.out.drew).trans (b7.mono (by rw [World.size_drew]; omega))).trans (b8.mono (by have := b7.size; rw [World.size_drew] at this; omega))
    have HBF := Lib.hid hbf
    clear hbf b7 b8 k0 k1 k2 j0 j1 j2 q0 q1 q2 p0 p1 p2 kz jz qz pz o7 HG HB HW4 HR hR4 hD4 H1 H2
    obtain ⟨⟨k0, k1, k2⟩, -, -, -, kz⟩ := blk3 gx8
    obtain ⟨⟨j0, j1, j2⟩, -, -, -, jz⟩ := blk3 gr8
    have HG := Lib.hid gx8; have HR := Lib.hid gr8
    clear gx8 gr8
    have hsz : w.heap.size ≤ w8.heap.size := HBF.out.size
    go_wp2_with fail
    refine (specRoomOk_any sw cnt _ L w8 hR8 (by omega) (by omega)).mono ?_
    rintro e w9 ⟨rfl, b9⟩
    have hD9 := hD8.below b9
    have gx9 := (b9.block _ kz).trans HG.out
    have gr9 := (b9.block _ jz).trans HR.out
    have hb9 := HBF.out.trans (b9.mono hsz)
    have HB9 := Lib.hid hb9
    have s9 : w.heap.size ≤ w9.heap.size := hb9.size
    clear k0 k1 k2 j0 j1 j2 kz jz HG HR b9 hD8 hR8 hb9 HBF
    obtain ⟨⟨k0, k1, k2⟩, -, -, -, kz⟩ := blk3 gx9
    obtain ⟨⟨j0, j1, j2⟩, -, -, -, jz⟩ := blk3 gr9
    have HG := Lib.hid gx9; have HR := Lib.hid gr9
    clear gx9 gr9
    rcases HAV.out with ⟨-, hr, hq0, hq1, hrx, hc0, hc1, hav⟩ | ⟨rfl, rfl, rfl, hbad⟩
    · rw [hr]
      have HA := Lib.hid hav; have HRX := Lib.hid hrx
      clear hav hrx hr HAV
      go_wp2_with fail
      go_region_held3 (fun wx => wx.cell? ⟨w3.heap.size, 0, none⟩ = some (.int .i64 asw) ∧ wx.cell? ⟨w3.heap.size, 1, none⟩ = some (.int .i64 acnt) ∧ wx.cell? ⟨w3.heap.size, 2, none⟩ = some (.slice A3 n3 c3) ∧ wx.cell? ⟨w1.heap.size, 0, none⟩ = some (.int .i64 sw) ∧ wx.cell? ⟨w1.heap.size, 1, none⟩ = some (.int .i64 cnt) ∧ wx.cell? ⟨w1.heap.size, 2, none⟩ = some (.slice A L.length c))
        (first | exact ⟨m0, m1, m2, l0, l1, l2⟩ | exact ⟨h0, h1, h2, i0, i1, i2⟩ | exact ⟨q0, q1, q2, p0, p1, p2⟩ | go_keep)
        (first | (go_at_call 37; refine (implRoomOk_any asw acnt _ D _ (by exact hD9)).mono ?_; rintro e w10 ⟨rfl, b10⟩; rw [HRX.out]; obtain ⟨⟨q0, q1, q2⟩, -, -, -, qz⟩ := blk3 ((b10.block _ (by exact kz)).trans (by exact HG.out)); obtain ⟨⟨p0, p1, p2⟩, -, -, -, pz⟩ := blk3 ((b10.block _ (by exact jz)).trans (by exact HR.out))) | (go_at_call 43; refine (HA.out _ _ (Rd.below (by exact hD9) b10)).mono ?_; rintro e w11 ⟨⟨A11, n11, c11, rfl, o11⟩, b11⟩; obtain ⟨⟨h0, h1, h2⟩, -, -, -, hz⟩ := blk3 ((b11.block _ qz).trans ((b10.block _ (by exact kz)).trans (by exact HG.out))); obtain ⟨⟨i0, i1, i2⟩, -, -, -, iz⟩ := blk3 ((b11.block _ pz).trans ((b10.block _ (by exact jz)).trans (by exact HR.out)))) | (go_at_call 47; refine (sameRoom_true _ _ _ _ D _ o11.rd (Rd.below (Rd.below (by exact hD9) b10) b11)).mono ?_; rintro e w12 ⟨rfl, b12⟩; obtain ⟨⟨m0, m1, m2⟩, -, -, -, -⟩ := blk3 ((b12.block _ hz).trans ((b11.block _ qz).trans ((b10.block _ (by exact kz)).trans (by exact HG.out)))); obtain ⟨⟨l0, l1, l2⟩, -, -, -, -⟩ := blk3 ((b12.block _ iz).trans ((b11.block _ pz).trans ((b10.block _ (by exact jz)).trans (by exact HR.out))))))
      have hb10 := (HB9.out.drew).trans (b10.mono (by rw [World.size_drew]; omega))
      have hb11 := hb10.trans (b11.mono hb10.size)
      have HB12 := Lib.hid (hb11.trans (b12.mono hb11.size))
      clear b10 b11 b12 hb10 hb11
      go_wp2
      go_ret
      exact ⟨rfl, HB12.out⟩
    · have hcc : n3 = 0 ∧ c3 ≤ 9223372036854775807 := by obtain ⟨A', c', e9, m1, m2, m3⟩ := hD9; injection e9 with e1 e2 e3; exact ⟨e2, by omega⟩
      obtain ⟨rfl, hcc⟩ := hcc
      have H9 := Lib.hid (noRoom_true A3 c3 w9 hcc)
      obtain ⟨rb, hrb⟩ : ∃ x, x = roomB sw cnt L := ⟨_, rfl⟩
      rw [← hrb] at hbad ⊢
      clear hrb HAV
      have hfin : ∀ W, Below w9.heap.size w9 W → Below w.heap.size w W := fun W h => HB9.out.trans (h.mono s9)
      have HF := Lib.hid hfin
      clear hfin
      rcases rb with _ | _
      · clear hbad
        go_wp2_with fail
        refine H9.out.mono ?_
        rintro e w10 ⟨rfl, b10⟩
        have HB10 := Lib.hid (HF.out _ b10)
        clear b10
        go_wp2_with fail
        refine (alive_true _).mono ?_
        rintro e w11 ⟨rfl, rfl⟩
        go_wp2
        go_ret
        exact ⟨rfl, HB10.out⟩
      · by_cases hq0 : q < 0
        · clear hbad
          go_wp2_with fail
          refine H9.out.mono ?_
          rintro e w10 ⟨rfl, b10⟩
          have HB10 := Lib.hid (HF.out _ b10)
          clear b10
          go_wp2_with fail
          refine (alive_true _).mono ?_
          rintro e w11 ⟨rfl, rfl⟩
          go_wp2
          go_ret
          exact ⟨rfl, HB10.out⟩
        · have hq1 : (L.length : Int) ≤ q := by
            rcases hbad with h | h | h
            · cases h
            · omega
            · exact h
          clear hbad
          go_wp2_with fail
          refine H9.out.mono ?_
          rintro e w10 ⟨rfl, b10⟩
          have HB10 := Lib.hid (HF.out _ b10)
          clear b10
          go_wp2_with fail
          refine (alive_true _).mono ?_
          rintro e w11 ⟨rfl, rfl⟩
          go_wp2
          go_ret
          exact ⟨rfl, HB10.out⟩
end Go.Proofs.Ytnpfjpihcdlmhaa

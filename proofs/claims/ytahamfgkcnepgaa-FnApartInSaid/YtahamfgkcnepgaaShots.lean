/- ShotsOk and ShotsIn, of the program and of the reference. -/
import Derived.Test.YtahamfgkcnepgaaNestW
import Derived.Test.YtahamfgkcnepgaaRange
namespace Go.Proofs.Ytahamfgkcnepgaa
open Go.RowKit

def rowOk (cols : Int) (zs : List Int) : Bool := decide ((zs.length : Int) = cols) && allB 0 1 zs
def shotsB (rows cols : Int) (zss : List (List Int)) : Bool := inB 1 6 rows && (inB 1 6 cols && (decide ((zss.length : Int) = rows) && zss.all (rowOk cols)))

theorem allB_snoc {lo hi : Int} {zs : List Int} {k : Nat} {z : Int} (hk : k < zs.length) (hz : z = zs.getD k 0) (h : allB lo hi (zs.take k) = true) (hb : inB lo hi z = true) : allB lo hi (zs.take (k + 1)) = true := by
  rw [take_snoc zs k hk, ← hz]
  simp only [allB, List.all_append, List.all_cons, List.all_nil, Bool.and_true] at h ⊢
  rw [h, hb]; rfl
theorem allB_not {lo hi : Int} {zs : List Int} {k : Nat} {z : Int} (hk : k < zs.length) (hz : z = zs.getD k 0) (hb : inB lo hi z = false) : allB lo hi zs = false := by
  have hm : z ∈ zs := by rw [hz]; simp [List.getD, List.getElem?_eq_getElem hk]
  rw [allB, List.all_eq_false]
  exact ⟨z, hm, by simp [hb]⟩
theorem rowsOk_snoc {cols : Int} {zss : List (List Int)} {k : Nat} {zs : List Int} (hk : k < zss.length) (hz : zs = zss.getD k []) (h : (zss.take k).all (rowOk cols) = true) (hb : rowOk cols zs = true) : (zss.take (k + 1)).all (rowOk cols) = true := by
  rw [takeR_snoc zss k hk, ← hz]
  simp only [List.all_append, List.all_cons, List.all_nil, Bool.and_true] at h ⊢
  rw [h, hb]; rfl
theorem rowsOk_not {cols : Int} {zss : List (List Int)} {k : Nat} {zs : List Int} (hk : k < zss.length) (hz : zs = zss.getD k []) (hb : rowOk cols zs = false) : zss.all (rowOk cols) = false := by
  have hm : zs ∈ zss := by rw [hz]; simp [List.getD, List.getElem?_eq_getElem hk]
  rw [List.all_eq_false]
  exact ⟨zs, hm, by simp [hb]⟩
theorem shotsB_not {rows cols : Int} {zss : List (List Int)} (h : zss.all (rowOk cols) = false) : shotsB rows cols zss = false := by
  unfold shotsB; rw [h]; simp

set_option maxHeartbeats 800000 in
set_option maxRecDepth 100000 in
theorem specShotsOk_any (rows cols : Int) (v : Value) (zss : List (List Int)) (w : World) (h : RdR w v zss) :
    Calls Try.prog 26 #[.int .i64 rows, .int .i64 cols, v] w fun e w' => e = .returned (.bool (shotsB rows cols zss)) ∧ w' = w := by
  obtain ⟨a1, c1, rfl, l1, m1, r1⟩ := h
  go_enter Try.func26, Try.ntmps26
  go_wp2
  go_loop [7, 8] (fun i _ => ∃ k : Nat, k ≤ zss.length ∧ i = .int .i64 k ∧ Hid ((zss.take k).all (rowOk cols) = true)) (fun i _ => zss.length - (intOf i).toNat)
  case atStart => exact ⟨0, Nat.zero_le _, rfl, rfl⟩
  case round =>
    obtain ⟨k, hk, rfl, hno⟩ := hrel
    by_cases hlt : k < zss.length
    · obtain ⟨g1, o1, A1, d1, zs, rfl, hg1, x1, y1, Z1⟩ := rdR_at r1 k hlt
      by_cases hcl : (zs.length : Int) = cols
      · subst hcl
        have hnl : zs.length ≤ 9223372036854775807 := by obtain ⟨A', c', e9, q1, q2, q3⟩ := y1; injection e9 with e1 e2 e3; omega
        obtain ⟨A', c', e9, l2, m2, r2⟩ := y1
        injection e9 with e1 e2 e3
        subst e1 e3
        clear r1
        go_wp2
        go_loop [8] (fun i => ∃ j : Nat, j ≤ zs.length ∧ i = .int .i64 j ∧ Hid (allB 0 1 (zs.take j) = true)) (fun i => zs.length - (intOf i).toNat)
        case atStart => exact ⟨0, Nat.zero_le _, rfl, rfl⟩
        case round =>
          obtain ⟨j, hj, rfl, hin⟩ := hrel
          by_cases hjl : j < zs.length
          · obtain ⟨g2, o2, z, rfl, hg2, x2, HZ⟩ := rd_at r2 j hjl
            clear r2
            go_wp2_with fail
            refine (l1In_any _ _ _ _).mono ?_
            rintro e w' ⟨rfl, rfl⟩
            rcases Bool.eq_false_or_eq_true (inB 0 1 z) with hb | hb
            · have HA := Lib.hid (allB_snoc hjl HZ.out hin.out hb)
              rw [hb]
              clear hb
              go_wp2
              go_round
              case rel => exact ⟨j + 1, by omega, by go_num, HA⟩
              case measure => simp [intOf]; omega
            · have hf : shotsB rows (zs.length : Int) zss = false := shotsB_not (rowsOk_not hlt Z1.out (by unfold rowOk; rw [allB_not hjl HZ.out hb]; simp))
              have HF := Lib.hid hf
              rw [hb]
              clear hb hf
              go_wp2
              go_ret
              exact ⟨ret_bool HF.out.symm, rfl⟩
          · have hj' : j = zs.length := by omega
            subst hj'
            have hrow : rowOk (zs.length : Int) zs = true := by unfold rowOk; have := hin.out; rw [List.take_length] at this; rw [this]; simp
            have HR := Lib.hid (rowsOk_snoc hlt Z1.out hno.out hrow)
            clear hrow
            go_wp2
            go_round
            case rel => exact ⟨k + 1, by omega, by go_num, HR⟩
            case measure => simp [intOf]; omega
      · have hf : shotsB rows cols zss = false := shotsB_not (rowsOk_not hlt Z1.out (by unfold rowOk; simp [hcl]))
        have hcq : ((zs.length : Int) == cols) = false := by simpa using hcl
        have HF := Lib.hid hf
        clear hf hcl r1 y1
        go_wp2
        go_ret
        exact ⟨ret_bool HF.out.symm, rfl⟩
    · have hk' : k = zss.length := by omega
      subst hk'
      rw [List.take_length] at hno
      have HS : Hid (shotsB rows cols zss = (inB 1 6 rows && (inB 1 6 cols && decide ((zss.length : Int) = rows)))) := by
        unfold Hid shotsB; rw [hno.out]; simp
      go_wp2_with fail
      refine (l1In_any _ _ _ _).mono ?_
      rintro e w' ⟨rfl, rfl⟩
      rcases Bool.eq_false_or_eq_true (inB 1 6 rows) with hb | hb
      · have HB := Lib.hid hb
        rw [hb]
        clear hb
        go_wp2_with fail
        refine (l1In_any _ _ _ _).mono ?_
        rintro e w' ⟨rfl, rfl⟩
        rcases Bool.eq_false_or_eq_true (inB 1 6 cols) with hb2 | hb2
        · have HB2 := Lib.hid hb2
          rw [hb2]
          clear hb2
          by_cases hl : (zss.length : Int) = rows
          · have hq : ((zss.length : Int) == rows) = true := by simpa using hl
            have HL := Lib.hid hl; clear hl
            go_wp2
            go_ret
            exact ⟨ret_bool (by rw [HS.out, HB.out, HB2.out]; simp [HL.out]), rfl⟩
          · have hq : ((zss.length : Int) == rows) = false := by simpa using hl
            have HL := Lib.hid hl; clear hl
            go_wp2
            go_ret
            exact ⟨ret_bool (by rw [HS.out, HB.out, HB2.out]; simp [HL.out]), rfl⟩
        · have HB2 := Lib.hid hb2
          rw [hb2]
          clear hb2
          go_wp2
          go_ret
          exact ⟨ret_bool (by rw [HS.out, HB2.out]; simp), rfl⟩
      · have HB := Lib.hid hb
        rw [hb]
        clear hb
        go_wp2
        go_ret
        exact ⟨ret_bool (by rw [HS.out, HB.out]; simp), rfl⟩

set_option maxRecDepth 100000 in
theorem wrongRow_any (cols : Int) (bl : Nat) (v : Value) (zs : List Int) (w : World) (h : Rd w v zs) (hl : w.cell? ⟨bl, 0, none⟩ = some (.int .i64 cols)) :
    Calls Try.prog 66 #[v, .pointer (some ⟨bl, 0, none⟩)] w fun e w' => e = .returned (.bool (!rowOk cols zs)) ∧ Below w.heap.size w w' := by
  have hR := h
  obtain ⟨a1, c1, rfl, l1, m1, r1⟩ := h
  by_cases hcl : (zs.length : Int) = cols
  · have hcq : ((zs.length : Int) == cols) = true := by simpa using hcl
    have HC := Lib.hid hcl; clear hcl r1
    go_enter Try.func66, Try.ntmps66
    go_wp2_with fail
    refine (allIn_any _ zs _ _ _ hR).mono ?_
    rintro e w' ⟨rfl, b⟩
    have HR : Hid (rowOk cols zs = allB 0 1 zs) := by unfold Hid rowOk; simp [HC.out]
    obtain ⟨x, hx⟩ : ∃ x, x = allB 0 1 zs := ⟨_, rfl⟩
    rw [← hx]
    have HX := Lib.hid hx; have HB := Lib.hid b
    clear hx b
    go_wp2
    go_ret
    exact ⟨ret_bool (by rw [HR.out, ← HX.out]), HB.out⟩
  · have hcq : ((zs.length : Int) == cols) = false := by simpa using hcl
    have HC := Lib.hid hcl; clear hcl r1
    go_enter Try.func66, Try.ntmps66
    go_wp2
    go_ret
    exact ⟨ret_bool (by unfold rowOk; simp [HC.out]), Below.refl _ _⟩

set_option maxRecDepth 100000 in
theorem IndexFunc_row (v : Value) (zss : List (List Int)) (cols : Int) (bl : Nat) (w : World) (h : RdR w v zss) (hl : w.cell? ⟨bl, 0, none⟩ = some (.int .i64 cols)) :
    Calls Try.prog 86 #[v, .func (.func 66) #[] #[.pointer (some ⟨bl, 0, none⟩)]] w fun e w' => (∃ k : Int, e = .returned (.int .i64 k) ∧ (0 ≤ k ↔ zss.all (rowOk cols) = false)) ∧ Below w.heap.size w w' := by
  have HR := Lib.hid h
  have hbl := block_lt_of_cell hl
  obtain ⟨a1, c1, rfl, l1, m1, r1⟩ := h
  clear r1
  go_enter Try.func86, Try.ntmps86
  go_wp2
  go_loopw [8] (fun i wr => ∃ k : Nat, k ≤ zss.length ∧ i = .int .i64 k ∧ Hid ((zss.take k).all (rowOk cols) = true) ∧ Below w.heap.size w wr) (fun i _ => zss.length - (intOf i).toNat)
  case atStart => exact ⟨0, Nat.zero_le _, rfl, rfl, Below.refl _ _⟩
  case round =>
    obtain ⟨k, hk, rfl, hno, hbr⟩ := hrel
    by_cases hlt : k < zss.length
    · obtain ⟨a2, c2, e9, l2, m2, r2⟩ := HR.out.below hbr
      injection e9 with e1 e2 e3
      subst e1 e3
      obtain ⟨g1, o1, A1, d1, zs, rfl, hg1, x1, y1, Z1⟩ := rdR_at r2 k hlt
      have hl2 := (hbr.cell (p := ⟨bl, 0, none⟩) hbl).trans hl
      clear r2
      go_wp2_with fail
      refine (wrongRow_any cols bl _ zs _ y1 hl2).mono ?_
      rintro e w' ⟨rfl, b⟩
      have HB := Lib.hid (hbr.trans (b.mono hbr.size))
      clear b hbr
      rcases Bool.eq_false_or_eq_true (rowOk cols zs) with hb | hb
      · rw [hb]
        have HS := Lib.hid (rowsOk_snoc hlt Z1.out hno.out hb)
        clear hb
        go_wp2
        go_round
        case rel => exact ⟨k + 1, by omega, by go_num, HS, HB.out⟩
        case measure => simp [intOf]; omega
      · rw [hb]
        have HF := Lib.hid (rowsOk_not hlt Z1.out hb)
        clear hb
        go_wp2
        go_ret
        exact ⟨⟨k, rfl, fun _ => HF.out, fun _ => by omega⟩, HB.out⟩
    · have hk' : k = zss.length := by omega
      subst hk'
      have HB := Lib.hid hbr
      clear hbr
      go_wp2
      go_ret
      refine ⟨⟨-1, rfl, fun h => by omega, fun h => ?_⟩, HB.out⟩
      have := hno.out
      rw [List.take_length, h] at this
      cases this

set_option maxRecDepth 100000 in
theorem ContainsFunc_row (v : Value) (zss : List (List Int)) (cols : Int) (bl : Nat) (w : World) (h : RdR w v zss) (hl : w.cell? ⟨bl, 0, none⟩ = some (.int .i64 cols)) :
    Calls Try.prog 69 #[v, .func (.func 66) #[] #[.pointer (some ⟨bl, 0, none⟩)]] w fun e w' => e = .returned (.bool (!zss.all (rowOk cols))) ∧ Below w.heap.size w w' := by
  go_enter Try.func69, Try.ntmps69
  go_wp2_with fail
  refine (IndexFunc_row _ _ _ _ _ h hl).mono ?_
  rintro e w' ⟨⟨k, rfl, hk⟩, b⟩
  have HK := Lib.hid hk; have HB := Lib.hid b; clear hk b
  by_cases h0 : 0 ≤ k
  · go_wp2
    go_ret
    exact ⟨ret_bool (by rw [HK.out.1 h0]; simp), HB.out⟩
  · go_wp2
    go_ret
    have h1 : zss.all (rowOk cols) = true := by
      cases hb : zss.all (rowOk cols)
      · exact absurd (HK.out.2 hb) (by omega)
      · rfl
    exact ⟨ret_bool (by rw [h1]; simp; omega), HB.out⟩

set_option maxRecDepth 100000 in
theorem isBoard_any (rows cols : Int) (w : World) :
    Calls Try.prog 68 #[.int .i64 rows, .int .i64 cols] w fun e w' => e = .returned (.bool (inB 1 6 rows && inB 1 6 cols)) ∧ w' = w := by
  go_enter Try.func68, Try.ntmps68
  go_wp2_with fail
  refine (in_any _ _ _ _).mono ?_
  rintro e w' ⟨rfl, rfl⟩
  rcases Bool.eq_false_or_eq_true (inB 1 6 rows) with hb | hb
  · rw [hb]
    have HB := Lib.hid hb
    clear hb
    go_wp2_with fail
    refine (in_any _ _ _ _).mono ?_
    rintro e w' ⟨rfl, rfl⟩
    obtain ⟨x, hx⟩ : ∃ x, x = inB 1 6 cols := ⟨_, rfl⟩
    rw [← hx]
    have HX := Lib.hid hx
    clear hx
    go_wp2
    go_ret
    exact ⟨ret_bool (by rw [HB.out, HX.out]; simp), rfl⟩
  · rw [hb]
    have HB := Lib.hid hb
    clear hb
    go_wp2
    go_ret
    exact ⟨ret_bool (by rw [HB.out]; simp), rfl⟩

set_option maxRecDepth 100000 in
theorem implShotsOk_any (rows cols : Int) (v : Value) (zss : List (List Int)) (w : World) (h : RdR w v zss) :
    Calls Try.prog 28 #[.int .i64 rows, .int .i64 cols, v] w fun e w' => e = .returned (.bool (shotsB rows cols zss)) ∧ Below w.heap.size w w' := by
  have hmf : ∀ (fn : Fn) (first cap : Array Value) (w : World), (Instr.makeFunc fn first cap).run Try.prog w = .ok (.func fn first cap) w := fun _ _ _ _ => rfl
  have hb1 : Below w.heap.size w (w.alloc (.cells #[.int .i64 cols] 3)) := (Below.refl _ _).alloc (Nat.le_refl _) _
  have h2 := h.below hb1
  have hl : (w.alloc (.cells #[.int .i64 cols] 3)).cell? ⟨w.heap.size, 0, none⟩ = some (.int .i64 cols) := by
    rw [World.cell?_alloc_at _ _ _ _ rfl]; rfl
  have HB := Lib.hid hb1
  obtain ⟨a1, c1, rfl, l1, m1, r1⟩ := h
  clear r1 hb1
  go_enter Try.func28, Try.ntmps28
  go_wp2_with fail
  refine (isBoard_any _ _ _).mono ?_
  rintro e w' ⟨rfl, rfl⟩
  rcases Bool.eq_false_or_eq_true (inB 1 6 rows && inB 1 6 cols) with hb | hb
  · rw [hb]
    have HS : Hid (shotsB rows cols zss = (decide ((zss.length : Int) = rows) && zss.all (rowOk cols))) := by
      unfold Hid shotsB; rw [← Bool.and_assoc, hb]; rfl
    clear hb
    by_cases hr : (zss.length : Int) = rows
    · have hq : ((zss.length : Int) == rows) = true := by simpa using hr
      have HQ := Lib.hid hr; clear hr
      go_wp2_with fail
      refine (ContainsFunc_row _ zss cols _ _ h2 hl).mono ?_
      rintro e w2 ⟨rfl, b2⟩
      rw [World.size_alloc] at b2
      have HB2 := Lib.hid (HB.out.trans (b2.mono (Nat.le_succ _)))
      obtain ⟨x, hx⟩ : ∃ x, x = zss.all (rowOk cols) := ⟨_, rfl⟩
      rw [← hx]
      have HX := Lib.hid hx
      clear hx b2
      go_wp2
      go_ret
      exact ⟨ret_bool (by rw [HS.out, ← HX.out]; simp [HQ.out]), HB2.out⟩
    · have hq : ((zss.length : Int) == rows) = false := by simpa using hr
      have HQ := Lib.hid hr; clear hr
      go_wp2
      go_ret
      exact ⟨ret_bool (by rw [HS.out]; simp [HQ.out]), HB.out⟩
  · rw [hb]
    have HS : Hid (shotsB rows cols zss = false) := by
      unfold Hid shotsB; rw [← Bool.and_assoc, hb]; rfl
    clear hb
    go_wp2
    go_ret
    exact ⟨ret_bool HS.out.symm, HB.out⟩
end Go.Proofs.Ytahamfgkcnepgaa

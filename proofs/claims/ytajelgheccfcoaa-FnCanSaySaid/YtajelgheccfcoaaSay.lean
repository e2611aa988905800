/- Sayings: the claims that the listener makes, and what they answer. -/
import Derived.Test.YtajelgheccfcoaaOnes
namespace Go.Proofs.Ytajelgheccfcoaa
open Go.RowKit

/-- What is said. -/
inductive Say where
  | kn (i : Nat)
  | no (a : Say)
  | num (d : Nat)
  | both (a b : Say)
  | some (a b : Say)
  | same (a b : Say)
def Say.val : Say → Nat → Bool
  | .kn i, k => k / 2 ^ i % 2 == 1
  | .no a, k => !a.val k
  | .num d, k => popN k == d
  | .both a b, k => a.val k && b.val k
  | .some a b, k => a.val k || b.val k
  | .same a b, k => a.val k == b.val k
/-- A call of the function K enters it. -/
def Enters (K : FuncId) : Prop := ∀ (args : Array Value) (W : World), (callFunc K args).run Try.prog W = .ok (.enter K args) W
theorem enters_1 : Enters 63 := fun _ _ => by first | rfl | (simp [callFunc, Try.func63, go_sem]; done)
theorem enters_2 : Enters 64 := fun _ _ => by first | rfl | (simp [callFunc, Try.func64, go_sem]; done)
theorem enters_3 : Enters 65 := fun _ _ => by first | rfl | (simp [callFunc, Try.func65, go_sem]; done)
theorem enters_b : Enters 70 := fun _ _ => by first | rfl | (simp [callFunc, Try.func70, go_sem]; done)
theorem enters_s : Enters 71 := fun _ _ => by first | rfl | (simp [callFunc, Try.func71, go_sem]; done)
theorem enters_e : Enters 72 := fun _ _ => by first | rfl | (simp [callFunc, Try.func72, go_sem]; done)
/-- The value v is a claim that says a, in blocks from lo on. -/
def IsClaim (W : World) (lo : Nat) : Say → Value → Prop
  | .kn i, v => i ≤ 4 ∧ ∃ g, lo ≤ g ∧ v = .func (.func 63) #[] #[.pointer (.some ⟨g, 0, none⟩)] ∧ W.heap[g]? = .some (.cells #[.int .i64 (i : Int)] 3 (0, 0))
  | .no a, v => ∃ g u, lo ≤ g ∧ v = .func (.func 64) #[] #[.pointer (.some ⟨g, 0, none⟩)] ∧ W.heap[g]? = .some (.cells #[u] 56 (0, 0)) ∧ IsClaim W lo a u
  | .num d, v => d ≤ 5 ∧ ∃ g, lo ≤ g ∧ v = .func (.func 65) #[] #[.pointer (.some ⟨g, 0, none⟩)] ∧ W.heap[g]? = .some (.cells #[.int .u8 ((48 + d : Nat) : Int)] 5 (0, 0))
  | .both a b, v => ∃ g g' u u', lo ≤ g ∧ lo ≤ g' ∧ v = .func (.func 70) #[] #[.pointer (.some ⟨g, 0, none⟩), .pointer (.some ⟨g', 0, none⟩)] ∧ W.heap[g]? = .some (.cells #[u] 56 (0, 0)) ∧ W.heap[g']? = .some (.cells #[u'] 56 (0, 0)) ∧ IsClaim W lo a u ∧ IsClaim W lo b u'
  | .some a b, v => ∃ g g' u u', lo ≤ g ∧ lo ≤ g' ∧ v = .func (.func 71) #[] #[.pointer (.some ⟨g, 0, none⟩), .pointer (.some ⟨g', 0, none⟩)] ∧ W.heap[g]? = .some (.cells #[u] 56 (0, 0)) ∧ W.heap[g']? = .some (.cells #[u'] 56 (0, 0)) ∧ IsClaim W lo a u ∧ IsClaim W lo b u'
  | .same a b, v => ∃ g g' u u', lo ≤ g ∧ lo ≤ g' ∧ v = .func (.func 72) #[] #[.pointer (.some ⟨g, 0, none⟩), .pointer (.some ⟨g', 0, none⟩)] ∧ W.heap[g]? = .some (.cells #[u] 56 (0, 0)) ∧ W.heap[g']? = .some (.cells #[u'] 56 (0, 0)) ∧ IsClaim W lo a u ∧ IsClaim W lo b u'
theorem IsClaim.keep {W W' : World} {lo : Nat} (hk : ∀ g, lo ≤ g → g < W.heap.size → W'.heap[g]? = W.heap[g]?) : ∀ {a : Say} {v : Value}, IsClaim W lo a v → IsClaim W' lo a v := by
  have hlt : ∀ {g : Nat} {o : Obj}, W.heap[g]? = .some o → g < W.heap.size := fun h => (Array.getElem?_eq_some_iff.1 h).1
  intro a
  induction a with
  | kn i => rintro v ⟨h0, g, h1, h2, h3⟩; exact ⟨h0, g, h1, h2, (hk g h1 (hlt h3)).trans h3⟩
  | no a ih => rintro v ⟨g, u, h1, h2, h3, h4⟩; exact ⟨g, u, h1, h2, (hk g h1 (hlt h3)).trans h3, ih h4⟩
  | num d => rintro v ⟨h0, g, h1, h2, h3⟩; exact ⟨h0, g, h1, h2, (hk g h1 (hlt h3)).trans h3⟩
  | both a b iha ihb => rintro v ⟨g, g', u, u', h1, h1', h2, h3, h3', h4, h5⟩; exact ⟨g, g', u, u', h1, h1', h2, (hk g h1 (hlt h3)).trans h3, (hk g' h1' (hlt h3')).trans h3', iha h4, ihb h5⟩
  | some a b iha ihb => rintro v ⟨g, g', u, u', h1, h1', h2, h3, h3', h4, h5⟩; exact ⟨g, g', u, u', h1, h1', h2, (hk g h1 (hlt h3)).trans h3, (hk g' h1' (hlt h3')).trans h3', iha h4, ihb h5⟩
  | same a b iha ihb => rintro v ⟨g, g', u, u', h1, h1', h2, h3, h3', h4, h5⟩; exact ⟨g, g', u, u', h1, h1', h2, (hk g h1 (hlt h3)).trans h3, (hk g' h1' (hlt h3')).trans h3', iha h4, ihb h5⟩
theorem IsClaim.drewN {W : World} {lo : Nat} {a : Say} {v : Value} (h : IsClaim W lo a v) (n : Nat) : IsClaim (W.drewN n) lo a v := IsClaim.keep (W := W) (W' := W.drewN n) (fun _ _ _ => rfl) h
theorem blk1 {W : World} {g : Nat} {x : Value} {ty : TypeId} (h : W.heap[g]? = .some (.cells #[x] ty (0, 0))) : W.cell? ⟨g, 0, none⟩ = .some x ∧ W.frozen? ⟨g, 0, none⟩ = false ∧ g < W.heap.size :=
  ⟨by rw [cell_of_row W g 0 _ _ _ h]; rfl, frozen_of_row W g 0 _ _ h, (Array.getElem?_eq_some_iff.1 h).1⟩

/-- What a claim answers to the set k. -/
def Ans (a : Say) (k : Nat) (W : World) (e : Ending) (w' : World) : Prop := e = .returned (.bool (a.val k)) ∧ ∃ m, w' = W.drewN m
def Evals (a : Say) (W : World) (v : Value) : Prop := ∃ K caps, v = .func (.func K) #[] caps ∧ Enters K ∧ ∀ k n : Nat, k < 32 → Calls Try.prog K (#[.int .i64 (k : Int)] ++ caps) (W.drewN n) (Ans a k (W.drewN n))

set_option maxRecDepth 100000 in
theorem eval_no (a : Say) (k g : Nat) (u : Value) (W : World) (hc : W.cell? ⟨g, 0, none⟩ = .some u) (h : Evals a W u) (hk : k < 32) (n : Nat) :
    Calls Try.prog 64 #[.int .i64 (k : Int), .pointer (.some ⟨g, 0, none⟩)] (W.drewN n) (Ans (.no a) k (W.drewN n)) := by
  obtain ⟨K, caps, rfl, hK, hev⟩ := h
  have hE := fun m => hK (#[.int .i64 (k : Int)] ++ caps) (W.drewN m)
  have H := Lib.hid (hev k n hk)
  clear hK hev
  go_enter Try.func64, Try.ntmps64
  go_wp2_with fail
  with_reducible refine H.out.mono ?_
  rintro e w' ⟨rfl, m, rfl⟩
  obtain ⟨b, hb⟩ : ∃ b, b = a.val k := ⟨_, rfl⟩
  rw [← hb]
  have HB : Hid ((!b) = (Say.no a).val k) := by unfold Hid; rw [hb]; rfl
  clear hb
  go_wp2
  go_ret
  exact ⟨ret_bool HB.out, m, by rw [World.drewN_drewN]⟩
theorem kn_0 : ∀ k : Fin 32, (bits BinOp.and IntKind.i64 (k.val : Int) 1 == 1) = (k.val / 2 ^ 0 % 2 == 1) := by decide +kernel
theorem kn_1 : ∀ k : Fin 32, (bits BinOp.and IntKind.i64 ((k.val : Int) / 2) 1 == 1) = (k.val / 2 ^ 1 % 2 == 1) := by decide +kernel
theorem kn_2 : ∀ k : Fin 32, (bits BinOp.and IntKind.i64 ((k.val : Int) / 4) 1 == 1) = (k.val / 2 ^ 2 % 2 == 1) := by decide +kernel
theorem kn_3 : ∀ k : Fin 32, (bits BinOp.and IntKind.i64 ((k.val : Int) / 8) 1 == 1) = (k.val / 2 ^ 3 % 2 == 1) := by decide +kernel
theorem kn_4 : ∀ k : Fin 32, (bits BinOp.and IntKind.i64 ((k.val : Int) / 16) 1 == 1) = (k.val / 2 ^ 4 % 2 == 1) := by decide +kernel

set_option maxRecDepth 100000 in
theorem eval_kn (i k g : Nat) (W : World) (hc : W.cell? ⟨g, 0, none⟩ = .some (.int .i64 (i : Int))) (hi : i ≤ 4) (hk : k < 32) (n : Nat) :
    Calls Try.prog 63 #[.int .i64 (k : Int), .pointer (.some ⟨g, 0, none⟩)] (W.drewN n) (Ans (.kn i) k (W.drewN n)) := by
  obtain rfl | rfl | rfl | rfl | rfl : i = 0 ∨ i = 1 ∨ i = 2 ∨ i = 3 ∨ i = 4 := by omega
  all_goals
    go_enter Try.func63, Try.ntmps63
    go_wp2
    go_ret
    first
      | exact ⟨ret_bool (kn_0 ⟨k, hk⟩), 0, rfl⟩
      | exact ⟨ret_bool (kn_1 ⟨k, hk⟩), 0, rfl⟩
      | exact ⟨ret_bool (kn_2 ⟨k, hk⟩), 0, rfl⟩
      | exact ⟨ret_bool (kn_3 ⟨k, hk⟩), 0, rfl⟩
      | exact ⟨ret_bool (kn_4 ⟨k, hk⟩), 0, rfl⟩

set_option maxRecDepth 100000 in
theorem eval_both (a b : Say) (k g g' : Nat) (u u' : Value) (W : World) (hc : W.cell? ⟨g, 0, none⟩ = .some u) (hc' : W.cell? ⟨g', 0, none⟩ = .some u') (h : Evals a W u) (h' : Evals b W u') (hk : k < 32) (n : Nat) :
    Calls Try.prog 70 #[.int .i64 (k : Int), .pointer (.some ⟨g, 0, none⟩), .pointer (.some ⟨g', 0, none⟩)] (W.drewN n) (Ans (.both a b) k (W.drewN n)) := by
  obtain ⟨K, caps, rfl, hK, hev⟩ := h
  obtain ⟨K', caps', rfl, hK', hev'⟩ := h'
  have hE := fun m => hK (#[.int .i64 (k : Int)] ++ caps) (W.drewN m)
  have hE' := fun m => hK' (#[.int .i64 (k : Int)] ++ caps') (W.drewN m)
  have H := Lib.hid (hev k n hk)
  have H' := Lib.hid (fun m => hev' k m hk)
  clear hK hev hK' hev'
  obtain ⟨y, hy⟩ : ∃ y, y = b.val k := ⟨_, rfl⟩
  have HY := Lib.hid hy
  clear hy
  go_enter Try.func70, Try.ntmps70
  go_wp2_with fail
  with_reducible refine H.out.mono ?_
  rintro e w' ⟨rfl, m, rfl⟩
  obtain ⟨x, hx⟩ : ∃ x, x = a.val k := ⟨_, rfl⟩
  rw [← hx]
  have HB : Hid ((x && y) = (Say.both a b).val k) := by unfold Hid; rw [hx, HY.out]; rfl
  clear hx
  rw [World.drewN_drewN]
  rcases x with _ | _
  · go_wp2
    go_ret
    exact ⟨ret_bool HB.out, m, by rw [World.drewN_drewN]⟩
  · go_wp2_with fail
    with_reducible refine (H'.out _).mono ?_
    rintro e w' ⟨rfl, m', rfl⟩
    rw [← HY.out]
    go_wp2
    go_ret
    exact ⟨ret_bool (by rw [← HB.out]; simp), m + m', by simp only [World.drewN_drewN, Nat.add_assoc]⟩
set_option maxRecDepth 100000 in
theorem eval_some (a b : Say) (k g g' : Nat) (u u' : Value) (W : World) (hc : W.cell? ⟨g, 0, none⟩ = .some u) (hc' : W.cell? ⟨g', 0, none⟩ = .some u') (h : Evals a W u) (h' : Evals b W u') (hk : k < 32) (n : Nat) :
    Calls Try.prog 71 #[.int .i64 (k : Int), .pointer (.some ⟨g, 0, none⟩), .pointer (.some ⟨g', 0, none⟩)] (W.drewN n) (Ans (.some a b) k (W.drewN n)) := by
  obtain ⟨K, caps, rfl, hK, hev⟩ := h
  obtain ⟨K', caps', rfl, hK', hev'⟩ := h'
  have hE := fun m => hK (#[.int .i64 (k : Int)] ++ caps) (W.drewN m)
  have hE' := fun m => hK' (#[.int .i64 (k : Int)] ++ caps') (W.drewN m)
  have H := Lib.hid (hev k n hk)
  have H' := Lib.hid (fun m => hev' k m hk)
  clear hK hev hK' hev'
  obtain ⟨y, hy⟩ : ∃ y, y = b.val k := ⟨_, rfl⟩
  have HY := Lib.hid hy
  clear hy
  go_enter Try.func71, Try.ntmps71
  go_wp2_with fail
  with_reducible refine H.out.mono ?_
  rintro e w' ⟨rfl, m, rfl⟩
  obtain ⟨x, hx⟩ : ∃ x, x = a.val k := ⟨_, rfl⟩
  rw [← hx]
  have HB : Hid ((x || y) = (Say.some a b).val k) := by unfold Hid; rw [hx, HY.out]; rfl
  clear hx
  rw [World.drewN_drewN]
  rcases x with _ | _
  · go_wp2_with fail
    with_reducible refine (H'.out _).mono ?_
    rintro e w' ⟨rfl, m', rfl⟩
    rw [← HY.out]
    go_wp2
    go_ret
    exact ⟨ret_bool (by rw [← HB.out]; simp), m + m', by simp only [World.drewN_drewN, Nat.add_assoc]⟩
  · go_wp2
    go_ret
    exact ⟨ret_bool HB.out, m, by rw [World.drewN_drewN]⟩

set_option maxRecDepth 100000 in
theorem eval_same (a b : Say) (k g g' : Nat) (u u' : Value) (W : World) (hc : W.cell? ⟨g, 0, none⟩ = .some u) (hc' : W.cell? ⟨g', 0, none⟩ = .some u') (h : Evals a W u) (h' : Evals b W u') (hk : k < 32) :
    Calls Try.prog 72 #[.int .i64 (k : Int), .pointer (.some ⟨g, 0, none⟩), .pointer (.some ⟨g', 0, none⟩)] W (Ans (.same a b) k W) := by
  obtain ⟨K, caps, rfl, hK, hev⟩ := h
  obtain ⟨K', caps', rfl, hK', hev'⟩ := h'
  have hE := fun m => hK (#[.int .i64 (k : Int)] ++ caps) (W.drewN m)
  have hE' := fun m => hK' (#[.int .i64 (k : Int)] ++ caps') (W.drewN m)
  have H := Lib.hid (fun m => hev k m hk)
  have H' := Lib.hid (fun m => hev' k m hk)
  clear hK hev hK' hev'
  obtain ⟨x, hx⟩ : ∃ x, x = a.val k := ⟨_, rfl⟩
  obtain ⟨y, hy⟩ : ∃ y, y = b.val k := ⟨_, rfl⟩
  have T : Hid (∀ m, Calls Try.prog K (#[.int .i64 (k : Int)] ++ caps) (W.drewN m) fun e w'' => e = .returned (.bool x) ∧ ∃ q, w'' = (W.drewN m).drewN q) := fun m => by rw [hx]; exact H.out m
  have T' : Hid (∀ m, Calls Try.prog K' (#[.int .i64 (k : Int)] ++ caps') (W.drewN m) fun e w'' => e = .returned (.bool y) ∧ ∃ q, w'' = (W.drewN m).drewN q) := fun m => by rw [hy]; exact H'.out m
  have HB : Hid ((x == y) = (Say.same a b).val k) := by unfold Hid; rw [hx, hy]; rfl
  clear hx hy H H'
  go_enter Try.func72, Try.ntmps72
  go_wp2_with fail
  go_quiet ((first | exact Calls.quiet_of (T.out _) | exact Calls.quiet_of (T'.out _)))
  go_wp2
  go_ret
  exact ⟨ret_bool HB.out, _, rfl⟩

set_option maxRecDepth 100000 in
theorem eval_num (d k g : Nat) (W : World) (hc : W.cell? ⟨g, 0, none⟩ = .some (.int .u8 ((48 + d : Nat) : Int))) (hd : d ≤ 5) (hk : k < 32) :
    Calls Try.prog 65 #[.int .i64 (k : Int), .pointer (.some ⟨g, 0, none⟩)] W (Ans (.num d) k W) := by
  obtain ⟨D, hD⟩ : ∃ D : Int, D = ((48 + d : Nat) : Int) := ⟨_, rfl⟩
  rw [← hD] at hc
  have hwu : IntKind.u64.wrap (k : Int) = (k : Int) := by rw [IntKind.wrap_u64]; omega
  have hwd : IntKind.u8.wrap (D - 48) = (d : Int) := by rw [IntKind.wrap_u8, hD]; omega
  have hwi : IntKind.i64.wrap (d : Int) = (d : Int) := by rw [IntKind.wrap_i64]; omega
  have T := Lib.hid (fun W => ones_any k W hk)
  clear hD
  go_enter Try.func65, Try.ntmps65
  go_wp2
  go_quiet ((go_at_call 66; exact Calls.quiet_of_same (T.out _)))
  go_wp2
  go_ret
  exact ⟨ret_bool (by show ((popN k : Int) == (d : Int)) = (popN k == d); rw [Bool.eq_iff_iff]; simp; omega), _, rfl⟩

theorem claim_eval : ∀ {a : Say} {W : World} {lo : Nat} {v : Value}, IsClaim W lo a v → Evals a W v := by
  intro a
  induction a with
  | kn i =>
    rintro W lo v ⟨h0, g, h1, rfl, h3⟩
    exact ⟨_, _, rfl, enters_1, fun k n hk => eval_kn i k g W (blk1 h3).1 h0 hk n⟩
  | no a ih =>
    rintro W lo v ⟨g, u, h1, rfl, h3, h4⟩
    exact ⟨_, _, rfl, enters_2, fun k n hk => eval_no a k g u W (blk1 h3).1 (ih h4) hk n⟩
  | num d =>
    rintro W lo v ⟨h0, g, h1, rfl, h3⟩
    exact ⟨_, _, rfl, enters_3, fun k n hk => eval_num d k g (W.drewN n) (blk1 h3).1 h0 hk⟩
  | both a b iha ihb =>
    rintro W lo v ⟨g, g', u, u', h1, h1', rfl, h3, h3', h4, h5⟩
    exact ⟨_, _, rfl, enters_b, fun k n hk => eval_both a b k g g' u u' W (blk1 h3).1 (blk1 h3').1 (iha h4) (ihb h5) hk n⟩
  | some a b iha ihb =>
    rintro W lo v ⟨g, g', u, u', h1, h1', rfl, h3, h3', h4, h5⟩
    exact ⟨_, _, rfl, enters_s, fun k n hk => eval_some a b k g g' u u' W (blk1 h3).1 (blk1 h3').1 (iha h4) (ihb h5) hk n⟩
  | same a b iha ihb =>
    rintro W lo v ⟨g, g', u, u', h1, h1', rfl, h3, h3', h4, h5⟩
    exact ⟨_, _, rfl, enters_e, fun k n hk => eval_same a b k g g' u u' (W.drewN n) (blk1 h3).1 (blk1 h3').1 (iha (h4.drewN n)) (ihb (h5.drewN n)) hk⟩
end Go.Proofs.Ytajelgheccfcoaa

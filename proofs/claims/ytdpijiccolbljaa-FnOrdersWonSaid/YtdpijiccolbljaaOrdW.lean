/- OrdersWon of the program: the walk. -/
import Derived.Test.YtdpijiccolbljaaOrd
namespace Go.Proofs.Ytdpijiccolbljaa
open Go.RowKit

theorem heap_keep (W : World) (o : Obj) (k : Nat) (x : Option Obj) (hk : k < W.heap.size) (h : W.heap[k]? = x) : (W.alloc o).heap[k]? = x := (Below.heap_alloc W o k hk).trans h

/-- The six blocks, one behind the other. -/
def ordW (w : World) (n : Nat) (t : Int) : World :=
  (((((w.alloc (.cells #[.int .i64 t] 3)).alloc (.cells #[.int .i64 0] 3)).alloc (.cells #[.int .i64 (n : Int)] 3)).alloc (.cells #[withV w.heap.size] 48)).alloc (.cells #[.slice none 0 0] 22)).alloc (.cells #[nextV w.heap.size] 1)
theorem ordSt_start (w : World) (n : Nat) (t : Int) : OrdSt w n t (.slice none 0 0) [] 0 (ordW w n t) := by
  have e : ∀ (W : World) (o : Obj), (W.alloc o).heap.size = W.heap.size + 1 := fun _ _ => by simp
  have hn : ∀ (W : World) (o : Obj), (W.alloc o).heap[W.heap.size]? = some o := fun W o => heap_alloc_new W o
  unfold ordW
  obtain ⟨W1, h1⟩ : ∃ W1, W1 = w.alloc (.cells #[.int .i64 t] 3) := ⟨_, rfl⟩
  have s1 : W1.heap.size = w.heap.size + 1 := by rw [h1, e]
  have a1 : W1.heap[w.heap.size]? = some (.cells #[.int .i64 t] 3 (0, 0)) := by rw [h1]; exact hn _ _
  have b1 : Below w.heap.size w W1 := by rw [h1]; exact (Below.refl _ _).alloc (Nat.le_refl _) _
  rw [← h1]
  clear h1
  obtain ⟨W2, h2⟩ : ∃ W2, W2 = W1.alloc (.cells #[.int .i64 0] 3) := ⟨_, rfl⟩
  have s2 : W2.heap.size = w.heap.size + 2 := by rw [h2, e, s1]
  have a2 : W2.heap[w.heap.size + 1]? = some (.cells #[.int .i64 0] 3 (0, 0)) := by rw [h2, ← s1]; exact hn _ _
  have a1 : W2.heap[w.heap.size]? = some (.cells #[.int .i64 t] 3 (0, 0)) := by rw [h2]; exact heap_keep _ _ _ _ (by omega) a1
  have b2 : Below w.heap.size w W2 := by rw [h2]; exact b1.alloc (by omega) _
  rw [← h2]
  clear h2 b1
  obtain ⟨W3, h3⟩ : ∃ W3, W3 = W2.alloc (.cells #[.int .i64 (n : Int)] 3) := ⟨_, rfl⟩
  have s3 : W3.heap.size = w.heap.size + 3 := by rw [h3, e, s2]
  have a3 : W3.heap[w.heap.size + 2]? = some (.cells #[.int .i64 (n : Int)] 3 (0, 0)) := by rw [h3, ← s2]; exact hn _ _
  have a2 : W3.heap[w.heap.size + 1]? = some (.cells #[.int .i64 0] 3 (0, 0)) := by rw [h3]; exact heap_keep _ _ _ _ (by omega) a2
  have a1 : W3.heap[w.heap.size]? = some (.cells #[.int .i64 t] 3 (0, 0)) := by rw [h3]; exact heap_keep _ _ _ _ (by omega) a1
  have b3 : Below w.heap.size w W3 := by rw [h3]; exact b2.alloc (by omega) _
  rw [← h3]
  clear h3 b2
  obtain ⟨W4, h4⟩ : ∃ W4, W4 = W3.alloc (.cells #[withV w.heap.size] 48) := ⟨_, rfl⟩
  have s4 : W4.heap.size = w.heap.size + 4 := by rw [h4, e, s3]
  have a4 : W4.heap[w.heap.size + 3]? = some (.cells #[withV w.heap.size] 48 (0, 0)) := by rw [h4, ← s3]; exact hn _ _
  have a3 : W4.heap[w.heap.size + 2]? = some (.cells #[.int .i64 (n : Int)] 3 (0, 0)) := by rw [h4]; exact heap_keep _ _ _ _ (by omega) a3
  have a2 : W4.heap[w.heap.size + 1]? = some (.cells #[.int .i64 0] 3 (0, 0)) := by rw [h4]; exact heap_keep _ _ _ _ (by omega) a2
  have a1 : W4.heap[w.heap.size]? = some (.cells #[.int .i64 t] 3 (0, 0)) := by rw [h4]; exact heap_keep _ _ _ _ (by omega) a1
  have b4 : Below w.heap.size w W4 := by rw [h4]; exact b3.alloc (by omega) _
  rw [← h4]
  clear h4 b3
  obtain ⟨W5, h5⟩ : ∃ W5, W5 = W4.alloc (.cells #[.slice none 0 0] 22) := ⟨_, rfl⟩
  have s5 : W5.heap.size = w.heap.size + 5 := by rw [h5, e, s4]
  have a5 : W5.heap[w.heap.size + 4]? = some (.cells #[.slice none 0 0] 22 (0, 0)) := by rw [h5, ← s4]; exact hn _ _
  have a4 : W5.heap[w.heap.size + 3]? = some (.cells #[withV w.heap.size] 48 (0, 0)) := by rw [h5]; exact heap_keep _ _ _ _ (by omega) a4
  have a3 : W5.heap[w.heap.size + 2]? = some (.cells #[.int .i64 (n : Int)] 3 (0, 0)) := by rw [h5]; exact heap_keep _ _ _ _ (by omega) a3
  have a2 : W5.heap[w.heap.size + 1]? = some (.cells #[.int .i64 0] 3 (0, 0)) := by rw [h5]; exact heap_keep _ _ _ _ (by omega) a2
  have a1 : W5.heap[w.heap.size]? = some (.cells #[.int .i64 t] 3 (0, 0)) := by rw [h5]; exact heap_keep _ _ _ _ (by omega) a1
  have b5 : Below w.heap.size w W5 := by rw [h5]; exact b4.alloc (by omega) _
  rw [← h5]
  clear h5 b4
  refine ⟨b5.alloc (by omega) _, heap_keep _ _ _ _ (by omega) a1, heap_keep _ _ _ _ (by omega) a2, heap_keep _ _ _ _ (by omega) a3, heap_keep _ _ _ _ (by omega) a4, heap_keep _ _ _ _ (by omega) a5, ?_, own_nil _ _ _⟩
  rw [← s5]; exact hn _ _

set_option maxHeartbeats 1600000 in
set_option maxRecDepth 100000 in
theorem orders_any (w : World) (n : Nat) (t : Int) (hn : 1 ≤ n ∧ n ≤ 7) :
    Calls Try.prog 55 #[.int .i64 (n : Int), .func (.func 56) #[] #[.pointer (some ⟨w.heap.size, 0, none⟩), .pointer (some ⟨w.heap.size + 1, 0, none⟩)]] ((w.alloc (.cells #[.int .i64 t] 3)).alloc (.cells #[.int .i64 0] 3)) fun e w' => e = .returned (.tuple #[]) ∧ ∃ v', OrdSt w n t v' [] (cntL t (permsF n n [])) w' := by
  have hmf : ∀ (fn : Fn) (first cap : Array Value) (w : World), (Instr.makeFunc fn first cap).run Try.prog w = .ok (.func fn first cap) w := fun _ _ _ _ => rfl
  have hb : (0 : Nat) + 8 ^ n ≤ 100000000 := by
    have : 8 ^ n ≤ 8 ^ 7 := Nat.pow_le_pow_right (by omega) hn.2
    omega
  have HN := Lib.hid (next_any w n t hn n _ [] 0 (ordW w n t) (ordSt_start w n t) (by simp) (pre_nil n) hb)
  unfold ordW withV nextV at HN
  clear hb
  go_enter Try.func55, Try.ntmps55
  go_wp2_with fail
  refine HN.out.mono ?_
  rintro e w' ⟨rfl, v', st⟩
  rw [Nat.zero_add] at st
  have HS := Lib.hid st
  clear st
  go_wp2
  go_end0
  exact ⟨rfl, v', HS.out⟩

set_option maxHeartbeats 1600000 in
set_option maxRecDepth 100000 in
theorem implOrdersWon_any (n t : Int) (w : World) :
    Calls Try.prog 34 #[.int .i64 n, .int .i64 t] w fun e w' => e = .returned (.int .i64 (ordI n t)) ∧ Below w.heap.size w w' := by
  have hb1 : Below w.heap.size w (w.alloc (.cells #[.int .i64 t] 3)) := (Below.refl _ _).alloc (Nat.le_refl _) _
  have HB1 := Lib.hid hb1
  clear hb1
  have hmf : ∀ (fn : Fn) (first cap : Array Value) (w : World), (Instr.makeFunc fn first cap).run Try.prog w = .ok (.func fn first cap) w := fun _ _ _ _ => rfl
  go_enter Try.func34, Try.ntmps34
  go_wp2_with fail
  with_reducible refine (in_any _ _ _ _).mono ?_
  rintro e w' ⟨rfl, rfl⟩
  rcases Bool.eq_false_or_eq_true (inB 1 7 n) with hb | hb
  rotate_left
  · rw [hb]
    have HF : Hid (ordI n t = -1) := by unfold Hid ordI ordB; rw [hb]; rfl
    clear hb
    go_wp2
    go_ret
    exact ⟨ret_int HF.out.symm, HB1.out⟩
  rw [hb]
  have hn := inB_in hb
  obtain ⟨m, rfl⟩ := Int.eq_ofNat_of_zero_le (a := n) (by omega)
  go_wp2_with fail
  with_reducible refine (in_any _ _ _ _).mono ?_
  rintro e w' ⟨rfl, rfl⟩
  rcases Bool.eq_false_or_eq_true (inB 0 7 t) with hb2 | hb2
  rotate_left
  · rw [hb2]
    have HF : Hid (ordI m t = -1) := by unfold Hid ordI ordB; rw [hb2]; simp
    clear hb hb2
    go_wp2
    go_ret
    exact ⟨ret_int HF.out.symm, HB1.out⟩
  rw [hb2]
  have HF : Hid (ordI m t = (cntL t (permsF m m []) : Int)) := by unfold Hid ordI ordB; rw [hb, hb2]; rfl
  have HST := Lib.hid (ordSt_start w m t)
  clear hb hb2
  go_wp2_with fail
  refine (orders_any w m t ⟨by omega, by omega⟩).mono ?_
  rintro e w5 ⟨rfl, v5, st5⟩
  obtain ⟨x1, -, -⟩ := blk1 st5.kw
  have HB5 := Lib.hid st5.bel
  clear st5
  go_wp2
  go_ret
  exact ⟨ret_int HF.out.symm, HB5.out⟩
end Go.Proofs.Ytdpijiccolbljaa

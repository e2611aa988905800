/- Reading a way, at the specification. -/
import Derived.Test.YtcgpfdknadijlaaCoJ
namespace Go.Proofs.Ytcgpfdknadijlaa
open Go.RowKit

/-- What a reading for the run from .. to leaves. -/
def RP (zs : List Int) (f i fr to : Nat) (l : List UInt8) (W : World) (e : Ending) (w' : World) : Prop :=
  ∃ (a z : Int), e = .returned (.tuple #[.int .i64 a, .int .i64 z]) ∧ (match pw f fr (l.drop i) with
      | some (t, r, m) => if m = to then a = t.cost zs ∧ z = ((l.length - r.length : Nat) : Int) else z = -1
      | none => z = -1) ∧ ∃ n, w' = W.drewN n

theorem pw_le {f n : Nat} {l r : List UInt8} {t : Wy} {m : Nat} (h : pw f n l = some (t, r, m)) : n ≤ m := by have := (pw_in f n l t r m h).1.size; omega

set_option maxRecDepth 100000 in
theorem rp_end (zs : List Int) (A : Value) (f i fr to : Nat) (l : List UInt8) (W : World) (hi : l.length ≤ i) :
    Calls Try.prog 30 #[A, .string (tx l), .int .i64 (i : Int), .int .i64 (fr : Int), .int .i64 (to : Int)] W (RP zs f i fr to l W) := by
  have hsz : (tx l).size = l.length := tx_size l
  have hg : decide (((tx l).size : Int) ≤ (i : Int)) = true := by simp; omega
  have hg' : decide ((tx l).size ≤ i) = true := by simp; omega
  have HR : Hid (pw f fr (l.drop i) = none) := by unfold Hid; rw [List.drop_eq_nil_iff.2 hi]; cases f <;> rfl
  clear hsz hi
  generalize tx l = S at *
  go_enter Try.func30, Try.ntmps30
  go_wp2
  refine bodyPost_ret (v := .tuple #[.int .i64 0, .int .i64 (-1)]) (by simp [results, Try.results30, go_sem]) rfl ?_
  exact ⟨_, _, rfl, by rw [HR.out], 0, rfl⟩

set_option maxRecDepth 100000 in
theorem rp_leaf (zs : List Int) (A : Value) (f i fr : Nat) (l : List UInt8) (c : UInt8) (r : List UInt8) (W : World) (hl : l.length ≤ 1000) (hd : l.drop i = c :: r) :
    Calls Try.prog 30 #[A, .string (tx l), .int .i64 (i : Int), .int .i64 (fr : Int), .int .i64 (fr : Int)] W (RP zs (f + 1) i fr fr l W) := by
  obtain ⟨h1, h2, h3, h4⟩ := tx_at hd
  have hsz : (tx l).size = l.length := tx_size l
  have hi : i < l.length := by rw [tx_size] at h1; exact h1
  have hg : decide (((tx l).size : Int) ≤ (i : Int)) = false := by simp; omega
  have hg' : decide ((tx l).size ≤ i) = false := by simp; omega
  obtain ⟨C, hC⟩ : ∃ C : Nat, C = c.toNat := ⟨_, rfl⟩
  have hcc : ∀ h' : i < (tx l).size, ((tx l)[i].toNat) = C := fun h' => by rw [h4]; exact hC.symm
  have HLEN : Hid (l.length - r.length = i + 1) := by unfold Hid; rw [h3]; simp; omega
  have hi1000 : i < 1000 := by omega
  by_cases h46 : C = 46
  · have HR : Hid (pw (f + 1) fr (l.drop i) = some (.leaf, r, fr)) := by unfold Hid; rw [hd]; simp only [pw]; rw [if_pos (by omega)]
    have q1 : ((C : Int) != 46) = false := by rw [h46]; rfl
    clear hd h3 h4 hl hsz hi hC h46
    generalize tx l = S at *
    go_enter Try.func30, Try.ntmps30
    go_wp2
    refine bodyPost_ret (v := .tuple #[.int .i64 0, .int .i64 ((i : Int) + 1)]) (by simp [results, Try.results30, go_sem]) rfl ?_
    refine ⟨_, _, rfl, ?_, 0, rfl⟩
    rw [HR.out]
    dsimp only
    rw [if_pos rfl]
    exact ⟨rfl, by rw [HLEN.out]; rfl⟩
  · have HR : Hid (match pw (f + 1) fr (l.drop i) with
      | some (t, r, m) => if m = fr then False else True
      | none => True) := by
      unfold Hid
      cases hq : pw (f + 1) fr (l.drop i) with
      | none => trivial
      | some q =>
        obtain ⟨t, r', m⟩ := q
        dsimp only
        rw [if_neg]
        · trivial
        intro hm
        subst hm
        have hin := (pw_in _ _ _ _ _ _ hq).1
        have hs := hin.size
        cases t with
        | leaf =>
          rw [hd] at hq
          simp only [pw] at hq
          rw [if_neg (by omega)] at hq
          split at hq
          · split at hq
            · cases hq
            · split at hq
              · split at hq
                · cases hq
                · split at hq
                  · cases hq
                  · cases hq
              · cases hq
          · cases hq
        | node g b o => simp only [Wy.size] at hs; omega
    have q1 : ((C : Int) != 46) = true := by rw [bne_iff_ne]; omega
    clear hd h3 h4 hl hsz hi hC h46
    generalize tx l = S at *
    go_enter Try.func30, Try.ntmps30
    go_wp2
    refine bodyPost_ret (v := .tuple #[.int .i64 0, .int .i64 (-1)]) (by simp [results, Try.results30, go_sem]) rfl ?_
    refine ⟨_, _, rfl, ?_, 0, rfl⟩
    have h := HR.out
    revert h
    cases pw (f + 1) fr (l.drop i) with
    | none => intro _; rfl
    | some q =>
      obtain ⟨t, r', m⟩ := q
      dsimp only
      split
      · intro h; exact h.elim
      · intro _; rfl
end Go.Proofs.Ytcgpfdknadijlaa

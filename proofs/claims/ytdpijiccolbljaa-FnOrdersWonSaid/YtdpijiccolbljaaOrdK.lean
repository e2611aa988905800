/- The reference's orders come one behind the other: tried in the kernel. -/
import Derived.Test.YtdpijiccolbljaaOrdP
namespace Go.Proofs.Ytdpijiccolbljaa
open Go.RowKit
def chainAll (n : Nat) : Bool := chainOk (permsF n n []) && eqN ((permsF n n []).headD []) (List.range n)
theorem chain_few : allN (fun k => chainAll (k + 1)) 6 = true := by decide +kernel
theorem chain_7 : chainAll 7 = true := by decide +kernel
theorem chain_all (n : Nat) (h1 : 1 ≤ n) (h7 : n ≤ 7) : chainOk (permsF n n []) = true ∧ (permsF n n []).headD [] = List.range n := by
  have : chainAll n = true := by
    rcases Nat.lt_or_ge n 7 with h | h
    · obtain ⟨k, rfl⟩ : ∃ k, n = k + 1 := ⟨n - 1, by omega⟩
      exact allN_out chain_few k (by omega)
    · obtain rfl : n = 7 := by omega
      exact chain_7
  unfold chainAll at this
  rw [Bool.and_eq_true] at this
  refine ⟨this.1, ?_⟩
  have hq : ∀ a b : List Nat, eqN a b = true → a = b := by
    intro a
    induction a with
    | nil => intro b h; cases b with | nil => rfl | cons _ _ => cases h
    | cons x l ih =>
      intro b h
      cases b with
      | nil => cases h
      | cons y m =>
        obtain ⟨h2, h3⟩ := cond_and (show cond (Nat.beq x y) (eqN l m) false = true from h)
        rw [Nat.eq_of_beq_eq_true h2, ih m h3]
  exact hq _ _ this.2
end Go.Proofs.Ytdpijiccolbljaa
